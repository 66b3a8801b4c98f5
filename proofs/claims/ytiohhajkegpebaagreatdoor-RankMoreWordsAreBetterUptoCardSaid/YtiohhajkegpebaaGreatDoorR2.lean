/-
  Contracts and plain facts, one after another: Lists of texts: HasText; The reference's Lower and Words; A range over a function: an iterator's contract against any loop body, and the law of the loop. No program is named here; Regions that draw their order, walked by hand: in a round and outside. No program is named here; Lists of texts: their type's numbers; Texts; stem: a rule applied.
-/
import Derived.Test.YtiohhajkegpebaaGreatDoorR1
import Derived.Test.YtiohhajkegpebaaGreatDoorBase
import Derived.Test.YtiohhajkegpebaaGreatDoorSmPure
import Derived.Test.YtiohhajkegpebaaGreatDoorShelf
import Derived.IntWalk
import Derived.Outline
import Derived.RangeFuncFrom
import Derived.Shelf.Abstract
import Derived.OrdersHeld
import Derived.OrdersIn
import Derived.RangeFuncCalls
import Derived.Deep.QuietTactic
import Derived.BigQuiet
namespace Go.Proofs.YtiohhajkegpebaaGreatDoor
open Go.RowKit

def strOf : Value → Str
  | .string b => b.data.toList
  | _ => []
theorem SlR.lenM {α : Type} {C : Codec α} {M : Nat → Prop} {w : World} {A : Option Addr} {n c : Nat} {l : List α} (h : SlR C M w (.slice A n c) l) : l.length ≤ c ∧ c ≤ 9223372036854775807 := by
  obtain ⟨A2, c2, e, h1, h2⟩ := h.form
  cases e
  exact ⟨h1, h2⟩

theorem anyL_true {α : Type} (s : List α) (p : α → Bool) (i : Nat) (hi : i < s.length) (h : p s[i] = true) : s.any p = true := by
  rw [List.any_eq_true]
  exact ⟨_, List.getElem_mem hi, h⟩
theorem any_true (s : List Str) (p : Str → Bool) (i : Nat) (hi : i < s.length) (h : p s[i] = true) : s.any p = true := by
  rw [List.any_eq_true]
  exact ⟨_, List.getElem_mem hi, h⟩
theorem any_false {α : Type} (s : List α) (p : α → Bool) (h : ∀ (i : Nat) (hi : i < s.length), p s[i] = false) : s.any p = false := by
  rw [List.any_eq_false]
  intro x hx
  obtain ⟨i, hi, rfl⟩ := List.mem_iff_getElem.1 hx
  rw [h i hi]; simp

set_option maxHeartbeats 400000 in
theorem hasText_ok (M : Nat → Prop) (v : Value) (l : List Str) (s : Str) (w : World) (h : SlR strC M w v l) : Calls Tryz.prog 17 #[v, .string (bs s)] w fun e w' => e = .returned (.bool (l.any (· == s))) ∧ w = w' := by
  obtain ⟨A, c, rfl, _, hcm⟩ := h.form
  have hn := h.len_le
  unfold maxLen at hn
  go_enter Tryz.func17, Tryz.ntmps17
  go_wp2
  go_loop [5] (fun i => ∃ k : Nat, k ≤ l.length ∧ i = .int .i64 k ∧ Hid (∀ (j : Nat) (hj : j < l.length), j < k → (l[j] == s) = false)) (fun i => l.length - (intOf i).toNat)
  case atStart => exact ⟨0, Nat.zero_le _, rfl, Lib.hid fun j _ h => absurd h (by omega)⟩
  case round =>
    obtain ⟨k, hk, rfl, hpre⟩ := hrel
    by_cases hlt : k < l.length
    · obtain ⟨b, off, rfl, _, _, hcell, _⟩ := h.strAt hlt
      obtain ⟨x, hx⟩ : ∃ x, x = l[k] := ⟨_, rfl⟩
      rw [← hx] at hcell
      have Hx := Lib.hid hx
      clear hx
      cases ht : (x == s) with
      | true =>
        go_wp2
        go_ret
        exact ⟨ret_bool (by rw [any_true l (· == s) k hlt (by rw [← Hx.out]; exact ht)]), rfl⟩
      | false =>
        go_wp2
        go_round
        case rel => exact ⟨k + 1, by omega, by go_num, Lib.hid fun j hj hjk => by
          by_cases e : j = k
          · subst e; rw [← Hx.out]; exact ht
          · exact hpre.out j hj (by omega)⟩
        case measure => simp [intOf]; omega
    · go_wp2
      go_ret
      exact ⟨ret_bool (by rw [any_false l (· == s) fun i hi => hpre.out i hi (by omega)]), rfl⟩
end Go.Proofs.YtiohhajkegpebaaGreatDoor
namespace Go.Proofs.YtiohhajkegpebaaGreatDoor
open Go.RowKit
set_option linter.unusedVariables false
theorem encode_bs (z : Int) : Utf8.encode z = bs (Lib.encodeRune z) := by
  have hb : ∀ (a : Int) (b : Nat), a = (b : Int) → a.toNat.toUInt8 = UInt8.ofNat b := fun a b h => by subst h; simp
  unfold bs Lib.encodeRune
  by_cases h1 : 0 ≤ z ∧ z ≤ 127
  · rw [Lib.encodeRuneZ_one h1.1 h1.2]
    obtain ⟨c, rfl⟩ : ∃ c : Nat, z = (c : Int) := ⟨z.toNat, by omega⟩
    have hv : Utf8.valid (c : Int) = true := by simp [Utf8.valid]; omega
    simp [Utf8.encode, hv, show c < 128 by omega]
  · by_cases h2 : 128 ≤ z ∧ z ≤ 2047
    · rw [Lib.encodeRuneZ_two h2.1 h2.2]
      obtain ⟨c, rfl⟩ : ∃ c : Nat, z = (c : Int) := ⟨z.toNat, by omega⟩
      have hv : Utf8.valid (c : Int) = true := by simp [Utf8.valid]; omega
      simp only [Utf8.encode, hv, if_true, Int.toNat_natCast]
      rw [if_neg (by omega), if_pos (by omega)]
      simp only [List.map_cons, List.map_nil, hb (192 + (c : Int) / 64) (192 + c / 64) (by omega), hb (128 + (c : Int) % 64) (128 + c % 64) (by omega)]
    · by_cases h3 : (2048 ≤ z ∧ z < 55296) ∨ (57343 < z ∧ z ≤ 65535)
      · rw [Lib.encodeRuneZ_three h3]
        obtain ⟨c, rfl⟩ : ∃ c : Nat, z = (c : Int) := ⟨z.toNat, by omega⟩
        have hv : Utf8.valid (c : Int) = true := by simp [Utf8.valid]; omega
        simp only [Utf8.encode, hv, if_true, Int.toNat_natCast]
        rw [if_neg (by omega), if_neg (by omega), if_pos (by omega)]
        simp only [List.map_cons, List.map_nil, hb (224 + (c : Int) / 4096) (224 + c / 4096) (by omega), hb (128 + (c : Int) / 64 % 64) (128 + c / 64 % 64) (by omega), hb (128 + (c : Int) % 64) (128 + c % 64) (by omega)]
      · by_cases h4 : 65536 ≤ z ∧ z ≤ 1114111
        · rw [Lib.encodeRuneZ_four h4.1 h4.2]
          obtain ⟨c, rfl⟩ : ∃ c : Nat, z = (c : Int) := ⟨z.toNat, by omega⟩
          have hv : Utf8.valid (c : Int) = true := by simp [Utf8.valid]; omega
          simp only [Utf8.encode, hv, if_true, Int.toNat_natCast]
          rw [if_neg (by omega), if_neg (by omega), if_neg (by omega)]
          simp only [List.map_cons, List.map_nil, hb (240 + (c : Int) / 262144) (240 + c / 262144) (by omega), hb (128 + (c : Int) / 4096 % 64) (128 + c / 4096 % 64) (by omega), hb (128 + (c : Int) / 64 % 64) (128 + c / 64 % 64) (by omega), hb (128 + (c : Int) % 64) (128 + c % 64) (by omega)]
        · rw [Lib.encodeRuneZ_bad (by omega)]
          have hv : Utf8.valid z = false := by simp [Utf8.valid]; omega
          simp [Utf8.encode, hv, Utf8.runeError]
set_option maxHeartbeats 2000000 in
theorem refLower_ok (s : Str) (hs : s.length ≤ 4000000) (w : World) (hT : TabsU w) : Calls Tryz.prog 42 #[.string (bs s)] w fun e w' => e = .returned (.string (bs (Sm.lower s))) ∧ Below w.heap.size w w' := by
  have hlen := Sm.lower_len s.length s (Nat.le_refl _)
  have HT := Lib.hid hT
  clear hT
  obtain ⟨res, hres⟩ : ∃ r, Sm.lower s = r := ⟨_, rfl⟩
  rw [hres] at hlen ⊢
  have Hres := Lib.hid hres
  clear hres
  go_enter Tryz.func42, Tryz.ntmps42
  go_wp2
  go_loopw [0, 3] (fun t o wr => ∃ (l L : Str), t = .string (bs l) ∧ o = .string (bs L) ∧ l.length ≤ s.length ∧ Hid (L ++ Sm.lower l = res) ∧ Below w.heap.size w wr) (fun t _ _ => (strOf t).length)
  case atStart => exact ⟨s, [], rfl, rfl, Nat.le_refl _, Lib.hid (by rw [List.nil_append, Hres.out]), Below.refl _ _⟩
  case round =>
    obtain ⟨l, L, rfl, rfl, hl, hL, hb⟩ := hrel
    by_cases hne : l = []
    · subst hne
      have hr : res = L := by rw [← hL.out, Sm.lower_nil, List.append_nil]
      have Hr := Lib.hid hr
      clear hr
      go_wp2
      go_ret
      exact ⟨ret_str (by rw [Hr.out]), hb⟩
    · have hpos := List.length_pos_iff.2 hne
      have hst := Sm.lower_step hne
      have hw1 := Lib.decodeL_width l
      have hw2 := Sm.width_le hne
      have hr := Lib.decodeL_rune l
      have hdec := Tryz.utf8_DecodeRuneInString (bs l) wr (HT.out.ext hb).u8
      have hdg : Lib.decodeGo (bs l) = Lib.decodeL l := by
        unfold Lib.decodeGo
        rw [if_neg (by rw [bs_size]; omega)]
        rfl
      rw [hdg] at hdec
      obtain ⟨r, hrr⟩ : ∃ r, (Lib.decodeL l).1 = r := ⟨_, rfl⟩
      obtain ⟨n, hnn⟩ : ∃ n, (Lib.decodeL l).2 = n := ⟨_, rfl⟩
      rw [hrr] at hst hr hdec
      rw [hnn] at hst hw1 hw2 hdec
      have hlc : (L ++ Lib.encodeRune (Lib.toLowerU (r : Int))) ++ Sm.lower (l.drop n) = res := by rw [← hL.out, hst, List.append_assoc]; rfl
      have hll : L.length + (Lib.encodeRune (Lib.toLowerU (r : Int))).length ≤ 16000000 := by
        have := congrArg List.length hlc
        rw [List.length_append, List.length_append] at this
        omega
      have Hlc := Lib.hid hlc; have Hdec := Lib.hid hdec
      clear hlc hst hdg hrr hnn hdec
      have hd0 : decide ((0 : Int) < (l.length : Int)) = true := by simp; omega
      have hd1 : 0 < l.length := hpos
      have hlow := fun W hbb => Tryz.unicode_ToLower_laid (r : Int) W ((HT.out.ext hb).ext hbb).case
      obtain ⟨z, hz⟩ : ∃ z, Lib.toLowerU (r : Int) = z := ⟨_, rfl⟩
      rw [hz] at hlow Hlc hll
      have Hlow := Lib.hid hlow
      clear hlow hz
      have hcat : (L.length + (Lib.encodeRune z).length ≤ 9223372036854775807) = True := by simp; omega
      have henc := encode_bs z
      have hn0 : (0 : Int) ≤ (n : Int) := by omega
      have hn1 : (n : Int) ≤ (l.length : Int) := by omega
      go_wp2_with fail
      refine Hdec.out.mono ?_
      rintro e w1 ⟨rfl, hb1⟩
      go_wp2_with fail
      refine (Hlow.out w1 hb1).mono ?_
      rintro e w2 ⟨rfl, q, hq⟩
      have hb2 := (below2 hb hb1).trans (hq ▸ below_drewN' _ _ _)
      clear hq
      go_wp2
      go_roundw
      case rel => exact ⟨l.drop n, L ++ Lib.encodeRune z, by rw [List.take_of_length_le (by rw [List.length_drop]; exact Nat.le_refl _)], rfl, by rw [List.length_drop]; omega, Hlc, hb2⟩
      case measure => simp [strOf, bs]; omega
end Go.Proofs.YtiohhajkegpebaaGreatDoor
namespace Go.Proofs.YtiohhajkegpebaaGreatDoor
open Go.RowKit

/-- A round: it turns the blocks of S alone; behind it S' may be turned: S and what it has made. -/
structure Chg (S S' : Nat → Prop) (w w' : World) : Prop where
  os : w'.os = w.os
  tape : w'.tape = w.tape
  output : w'.output = w.output
  size : w.heap.size ≤ w'.heap.size
  same : ∀ b, b < w.heap.size → ¬ S b → w'.heap[b]? = w.heap[b]?
  own : ∀ b, S' b → b < w'.heap.size ∧ (S b ∨ w.heap.size ≤ b)
/-- Between two rounds: what lay below n, and the blocks of S, lie as they lay. -/
structure Kept (n : Nat) (S : Nat → Prop) (w w' : World) : Prop where
  os : w'.os = w.os
  tape : w'.tape = w.tape
  output : w'.output = w.output
  size : w.heap.size ≤ w'.heap.size
  same : ∀ b, b < w.heap.size → (b < n ∨ S b) → w'.heap[b]? = w.heap[b]?
theorem Kept.refl (n : Nat) (S : Nat → Prop) (w : World) : Kept n S w w := ⟨rfl, rfl, rfl, Nat.le_refl _, fun _ _ _ => rfl⟩
theorem Kept.trans {n : Nat} {S : Nat → Prop} {a b c : World} (h : Kept n S a b) (k : Kept n S b c) : Kept n S a c :=
  ⟨k.os.trans h.os, k.tape.trans h.tape, k.output.trans h.output, Nat.le_trans h.size k.size, fun i hi hs => (k.same i (by have := h.size; omega) hs).trans (h.same i hi hs)⟩
theorem Kept.of_below {n : Nat} {S : Nat → Prop} {w w' : World} (h : Below w.heap.size w w') : Kept n S w w' := ⟨h.os, h.tape, h.output, h.size, fun b hb _ => h.block b hb⟩
theorem Kept.below {n B : Nat} {S : Nat → Prop} {a w w' : World} (h : Kept n S w w') (hB : B ≤ n) (hb : Below B a w) (hn : B ≤ w.heap.size) : Below B a w' :=
  ⟨h.os.trans hb.os, h.tape.trans hb.tape, h.output.trans hb.output, Nat.le_trans hb.size h.size, fun k hk => (h.same k (by omega) (.inl (by omega))).trans (hb.block k hk)⟩
theorem Kept.putObj {n : Nat} {S : Nat → Prop} {w : World} {r : Nat} {o : Obj} (hn : n ≤ r) (hS : ¬ S r) : Kept n S w (w.putObj r o) :=
  ⟨rfl, rfl, rfl, by simp, fun b _ hb => World.putObj_heap_other (fun e => by subst e; rcases hb with h | h; omega; exact hS h)⟩

/-- The iterator value '.func gf' with lb behind it yields the elements xs, in order, to whatever body: FP: what it reads (it lies outside S). -/
def Iter {α : Type} (P : Program) (gf : Nat) (lb : Array Value) (encs : α → Array Value) (xs : List α) (FP : (Nat → Prop) → World → Prop) : Prop :=
  ∀ (l : Nat) (J Jx : Nat → (Nat → Prop) → World → Prop) (S : Nat → Prop) (W : World), FP S W → (∀ b, S b → b < W.heap.size) →
    (∀ k S W1 W2, J k S W1 → Kept W.heap.size S W1 W2 → J k S W2) → (∀ k S W1 W2, Jx k S W1 → Kept W.heap.size S W1 W2 → Jx k S W2) →
    (∀ k (h : k < xs.length) S W1, J k S W1 → W.heap.size ≤ W1.heap.size → YieldAt Fence.wide 0 P l (encs xs[k]) W1 fun e W' => ∃ S', Chg S S' W1 W' ∧
      ((e = .returned (.bool true) ∧ J (k + 1) S' W') ∨ (e = .returned (.bool false) ∧ Jx (k + 1) S' W'))) →
    J 0 S W →
    CallsIn Fence.wide 0 P gf (#[.func (.yield l) #[] #[]] ++ lb) W fun e W' => (∃ v, e = .returned v) ∧ ((∃ S', J xs.length S' W') ∨ ∃ k S', Jx k S' W')

/-- How the body of a round may be left. -/
def itPost (I : Nat → (Nat → Prop) → World → Prop) (Ix : Code → Nat → (Nat → Prop) → World → Prop) (k : Nat) (S : Nat → Prop) (W : World) : Exit → Act → World → Prop
  | .normal, _, W' => ∃ S', Chg S S' W W' ∧ I (k + 1) S' W'
  | .ret, _, W' => ∃ S', Chg S S' W W' ∧ Ix .ret (k + 1) S' W'
  | .exit id, _, W' => ∃ S', Chg S S' W W' ∧ Ix (.exit id) (k + 1) S' W'
  | _, _, _ => False

theorem wp_rangeFunc_iter {P : Program} {α : Type} {g : Operand} {ps : Array Tmp} {assign body : Code} {Q : Exit → Act → World → Prop} {a : Act} {w : World}
    {gf : Nat} {lb : Array Value} {encs : α → Array Value} {xs : List α} {FP : (Nat → Prop) → World → Prop}
    (hit : Iter P gf lb encs xs FP) (hg : a.eval g = .func (.func gf) #[] lb) (eg : ∀ args w, (callFunc gf args).run P w = .ok (.enter gf args) w)
    (hps : ∀ x, (encs x).size = ps.size)
    (I : Nat → (Nat → Prop) → World → Prop) (Ix : Code → Nat → (Nat → Prop) → World → Prop) (S : Nat → Prop)
    (hS : ∀ b, S b → b < w.heap.size)
    (hFP : ∀ S' W, (∀ b, S' b → S b ∨ w.heap.size ≤ b) → Below w.heap.size w W → FP S' W)
    (hI : ∀ k S W W', I k S W → Kept w.heap.size S W W' → I k S W') (hIx : ∀ c k S W W', Ix c k S W → Kept w.heap.size S W W' → Ix c k S W')
    (h0 : I 0 S w) (a₁ : α → Act)
    (hassign : ∀ (l : Nat) (x : α) (W : World) (K : Act → World → Prop), K (a₁ x) W →
      assign.wpIn (Fence.wide.inRound l) 0 P (Exit.then K (fun _ _ _ => False)) { tmps := (ps.zip (encs x)).foldl (fun t (p, v) => t.setIfInBounds p v) a.tmps, defers := [] } W)
    (hbody : ∀ (l k : Nat) (h : k < xs.length) (S : Nat → Prop) (W : World), I k S W → (∀ b, S b → b < W.heap.size) → w.heap.size ≤ W.heap.size →
      body.wpIn (Fence.wide.inRound l) 0 P (itPost I Ix k S W) (a₁ xs[k]) W)
    (hdone : ∀ (D : Nat) (S : Nat → Prop) (W : World), w.heap.size ≤ D → ¬ S D → I xs.length S W → W.heap[D]? = some (.deferred (some [])) → Q .normal { a with defers := { target := .collected D, args := #[] } :: a.defers } W)
    (hstop : ∀ (D : Nat) (c : Code) (k : Nat) (S : Nat → Prop) (W : World), w.heap.size ≤ D → ¬ S D → Ix c k S W → W.heap[D]? = some (.deferred (some [])) → c.wp P Q { a with defers := { target := .collected D, args := #[] } :: a.defers } W) :
    (Code.rangeFunc g ps assign body).wp P Q a w := by
  refine (wpIn_wide (n := 0)).1 (wpIn_rangeFunc ?_)
  intro fn hfn
  obtain ⟨rec, hrec⟩ : ∃ rec : LoopState → Option Code → Loop, rec = fun st pe => { state := st, pending := pe, fn, tmps := a.tmps, params := ps, assign, body, defers := w.heap.size } := ⟨_, rfl⟩
  obtain ⟨W1, hW1⟩ : ∃ W1, (w.alloc (.deferred (some []))).alloc (.loop (rec .ready none)) = W1 := ⟨_, rfl⟩
  have hs1 : W1.heap.size = w.heap.size + 2 := by rw [← hW1]; simp
  have hL1 : W1.heap[w.heap.size + 1]? = some (.loop (rec .ready none)) := by
    rw [← hW1]; have := World.alloc_heap_new (w.alloc (.deferred (some []))) (.loop (rec .ready none)); rwa [World.size_alloc] at this
  have hK1 : W1.heap[w.heap.size]? = some (.deferred (some [])) := by
    rw [← hW1]; exact (Below.heap_alloc _ _ _ (by simp)).trans (World.alloc_heap_new w _)
  have hb1 : Below w.heap.size w W1 := by
    rw [← hW1]; exact ((Below.refl _ w).alloc (Nat.le_refl _) _).alloc (by simp) _
  -- the iterator's invariant: the caller's, and the two blocks of book-keeping
  let bk (T S : Nat → Prop) : Prop := (∀ b, T b ↔ S b ∨ b = w.heap.size ∨ b = w.heap.size + 1) ∧ ¬ S w.heap.size ∧ ¬ S (w.heap.size + 1)
  let J : Nat → (Nat → Prop) → World → Prop := fun k T W => ∃ S, bk T S ∧ I k S W ∧ (∀ b, S b → b < W.heap.size) ∧ W.heap[w.heap.size + 1]? = some (.loop (rec .ready none)) ∧ W.heap[w.heap.size]? = some (.deferred (some []))
  let Jx : Nat → (Nat → Prop) → World → Prop := fun k T W => ∃ S c, bk T S ∧ Ix c k S W ∧ W.heap[w.heap.size + 1]? = some (.loop (rec .done (some c))) ∧ W.heap[w.heap.size]? = some (.deferred (some []))
  have keptS : ∀ {T S : Nat → Prop} {A B : World}, bk T S → Kept W1.heap.size T A B → Kept w.heap.size S A B := fun hb hk =>
    ⟨hk.os, hk.tape, hk.output, hk.size, fun b hlt hor => hk.same b hlt (hor.elim (fun h => .inl (by omega)) (fun h => .inr ((hb.1 b).2 (.inl h))))⟩
  refine ⟨w.heap.size + 1, [{ target := .collected w.heap.size, args := #[] }], W1, { target := .fn (.func gf) lb, args := #[.func (.yield (w.heap.size + 1)) #[] #[]] }, W1, gf,
    #[.func (.yield (w.heap.size + 1)) #[] #[]] ++ lb, W1, ?_, ?_, ?_, ?_, fun h => by simp [Fence.wide] at h, ?_⟩
  · rw [← hW1, hrec]; exact run_enterLoop_outer _ _ _ _ _
  · simp only [resolve, hg]
    simp [go_sem]
  · intro f' _; trivial
  · simp [invoke, go_sem, eg]
  · refine (hit (w.heap.size + 1) J Jx (fun b => S b ∨ b = w.heap.size ∨ b = w.heap.size + 1) W1
      (hFP _ _ (fun b hb => hb.elim .inl fun h => .inr (by omega)) hb1) (fun b hb => by rcases hb with h | h | h; have := hS b h; omega; omega; omega) ?_ ?_ ?_ ?_).mono ?_
    · rintro k T A B ⟨S', hbk, hi, hlt, hl, hk⟩ hkept
      exact ⟨S', hbk, hI _ _ _ _ hi (keptS hbk hkept), fun b hb => Nat.lt_of_lt_of_le (hlt b hb) hkept.size,
        (hkept.same _ (Array.getElem?_eq_some_iff.1 hl).1 (.inl (by omega))).trans hl, (hkept.same _ (Array.getElem?_eq_some_iff.1 hk).1 (.inl (by omega))).trans hk⟩
    · rintro k T A B ⟨S', c, hbk, hi, hl, hk⟩ hkept
      exact ⟨S', c, hbk, hIx _ _ _ _ _ hi (keptS hbk hkept),
        (hkept.same _ (Array.getElem?_eq_some_iff.1 hl).1 (.inl (by omega))).trans hl, (hkept.same _ (Array.getElem?_eq_some_iff.1 hk).1 (.inl (by omega))).trans hk⟩
    · -- one round
      rintro k hk T W ⟨S', hbk, hi, hlt, hl, hd⟩ hsz
      have hll : w.heap.size + 1 < W.heap.size := (Array.getElem?_eq_some_iff.1 hl).1
      have hy := run_yield (P := P) (args := encs xs[k]) hl (by rw [hrec]; exact hps _)
      rw [hrec] at hy
      refine ⟨fn, _, assign, body, hy, roundIn_of_wpIn hfn (hassign _ xs[k] W _ ⟨_, run_beginRound hl (by rw [hrec]), ?_⟩)⟩
      obtain ⟨W2, hW2⟩ : ∃ W2, W.putObj (w.heap.size + 1) (.loop { rec .ready none with state := .busy }) = W2 := ⟨_, rfl⟩
      have hl2 : W2.heap[w.heap.size + 1]? = some (.loop { rec .ready none with state := .busy }) := by rw [← hW2]; exact World.putObj_heap_same hll
      have hd2 : W2.heap[w.heap.size]? = some (.deferred (some [])) := by rw [← hW2]; exact (World.putObj_heap_other (by omega)).trans hd
      have hs2 : W2.heap.size = W.heap.size := by rw [← hW2]; simp
      have hi2 : I k S' W2 := by rw [← hW2]; exact hI _ _ _ _ hi (Kept.putObj (by omega) hbk.2.2)
      have hsame2 : ∀ b, b ≠ w.heap.size + 1 → W2.heap[b]? = W.heap[b]? := fun b hb => by rw [← hW2]; exact World.putObj_heap_other hb
      have ho2 : W2.os = W.os ∧ W2.tape = W.tape ∧ W2.output = W.output := by rw [← hW2]; exact ⟨rfl, rfl, rfl⟩
      rw [hW2]
      refine wpIn_mono (hbody _ k hk S' W2 hi2 (fun b hb => by rw [hs2]; exact hlt b hb) (by omega)) ?_
      have fin : ∀ (jump : Option Code) (S'' : Nat → Prop) (W3 : World), Chg S' S'' W2 W3 →
          (Instr.endRound (w.heap.size + 1) jump).run P W3 = .ok (.bool jump.isNone) (W3.putObj (w.heap.size + 1) (.loop (rec (if jump.isNone then .ready else .done) jump))) ∧
          Chg T (fun b => S'' b ∨ b = w.heap.size ∨ b = w.heap.size + 1) W (W3.putObj (w.heap.size + 1) (.loop (rec (if jump.isNone then .ready else .done) jump))) ∧
          bk (fun b => S'' b ∨ b = w.heap.size ∨ b = w.heap.size + 1) S'' ∧
          Kept w.heap.size S'' W3 (W3.putObj (w.heap.size + 1) (.loop (rec (if jump.isNone then .ready else .done) jump))) ∧
          (W3.putObj (w.heap.size + 1) (.loop (rec (if jump.isNone then .ready else .done) jump))).heap[w.heap.size + 1]? = some (.loop (rec (if jump.isNone then .ready else .done) jump)) ∧
          (W3.putObj (w.heap.size + 1) (.loop (rec (if jump.isNone then .ready else .done) jump))).heap[w.heap.size]? = some (.deferred (some [])) := fun jump S'' W3 hc => by
        have hl3 : W3.heap[w.heap.size + 1]? = some (.loop { rec .ready none with state := .busy }) := (hc.same _ (by omega) hbk.2.2).trans hl2
        have hd3 : W3.heap[w.heap.size]? = some (.deferred (some [])) := (hc.same _ (by omega) hbk.2.1).trans hd2
        have hsz3 := hc.size
        have hn1 : ¬ S'' w.heap.size := fun h => (hc.own _ h).2.elim hbk.2.1 (by omega)
        have hn2 : ¬ S'' (w.heap.size + 1) := fun h => (hc.own _ h).2.elim hbk.2.2 (by omega)
        have hr := run_endRound (P := P) jump hl3
        rw [hrec] at hr ⊢
        refine ⟨hr, ⟨hc.os.trans ho2.1, hc.tape.trans ho2.2.1, hc.output.trans ho2.2.2, by rw [World.putObj_size]; omega, fun b hb hT => ?_, fun b hb => ?_⟩, ⟨fun b => Iff.rfl, hn1, hn2⟩, Kept.putObj (by omega) hn2, World.putObj_heap_same (by omega), (World.putObj_heap_other (by omega)).trans hd3⟩
        · have hb1 : b ≠ w.heap.size + 1 := fun e => hT ((hbk.1 b).2 (.inr (.inr e)))
          exact (World.putObj_heap_other hb1).trans ((hc.same b (by omega) (fun h => hT ((hbk.1 b).2 (.inl h)))).trans (hsame2 b hb1))
        · rw [World.putObj_size]
          rcases hb with h | h | h
          · obtain ⟨h1, h2⟩ := hc.own b h
            exact ⟨h1, h2.elim (fun h => .inl ((hbk.1 b).2 (.inl h))) (fun h => .inr (by omega))⟩
          · exact ⟨by omega, .inl ((hbk.1 b).2 (.inr (.inl h)))⟩
          · exact ⟨by omega, .inl ((hbk.1 b).2 (.inr (.inr h)))⟩
      rintro e a3 W3 hp
      cases e with
      | normal =>
        obtain ⟨S'', hc, hi3⟩ := hp
        obtain ⟨hr, hc4, hbk4, hk4, hl4, hd4⟩ := fin none S'' W3 hc
        exact ⟨_, _, hr, _, hc4, .inl ⟨rfl, S'', hbk4, hI _ _ _ _ hi3 hk4, fun b hb => by rw [World.putObj_size]; exact (hc.own b hb).1, hl4, hd4⟩⟩
      | ret =>
        obtain ⟨S'', hc, hi3⟩ := hp
        obtain ⟨hr, hc4, hbk4, hk4, hl4, hd4⟩ := fin (some .ret) S'' W3 hc
        exact ⟨_, _, hr, _, hc4, .inr ⟨rfl, S'', .ret, hbk4, hIx _ _ _ _ _ hi3 hk4, hl4, hd4⟩⟩
      | exit id =>
        obtain ⟨S'', hc, hi3⟩ := hp
        obtain ⟨hr, hc4, hbk4, hk4, hl4, hd4⟩ := fin (some (.exit id)) S'' W3 hc
        exact ⟨_, _, hr, _, hc4, .inr ⟨rfl, S'', .exit id, hbk4, hIx _ _ _ _ _ hi3 hk4, hl4, hd4⟩⟩
      | goto t => exact hp.elim
      | panic ch => exact hp.elim
      | outgrown => exact hp.elim
    · exact ⟨S, ⟨fun b => Iff.rfl, fun h => by have := hS _ h; omega, fun h => by have := hS _ h; omega⟩, hI _ _ _ _ h0 (Kept.of_below hb1), fun b hb => by have := hS b hb; omega, hL1, hK1⟩
    · -- behind the iterator
      rintro e W2 ⟨⟨v, rfl⟩, (⟨T, S', hbk, hi, _, hl, hd⟩ | ⟨k, T, S', c, hbk, hi, hl, hd⟩)⟩
      · refine ⟨none, _, by have := run_endLoop (P := P) hl (by rw [hrec]; simp); rw [hrec] at this; exact this, hdone _ S' _ (Nat.le_refl _) hbk.2.1 (hI _ _ _ _ hi (Kept.putObj (by omega) hbk.2.2)) ((World.putObj_heap_other (by omega)).trans hd)⟩
      · exact ⟨some c, _, by have := run_endLoop (P := P) hl (by rw [hrec]; simp); rw [hrec] at this; exact this,
          (wpIn_wide (n := 0)).2 (hstop _ c k S' _ (Nat.le_refl _) hbk.2.1 (hIx _ _ _ _ _ hi (Kept.putObj (by omega) hbk.2.2)) ((World.putObj_heap_other (by omega)).trans hd))⟩

/-- What a body must achieve that holds ranges over functions: 'bodyPostM', unfenced. -/
theorem calls_of_wp_marks {P : Program} {f : FuncId} {fn : Func} {c : Code} {args : Array Value} {w : World} {R : Ending → World → Prop}
    (hf : P.funcs[f]? = some fn) (hb : fn.body = some c)
    (h : c.wp P (bodyPostM Fence.wide 0 P fn R) { tmps := args ++ Array.replicate (fn.ntmps - args.size) undef, defers := [] } w) : Calls P f args w R :=
  callsIn_wide.1 (callsIn_of_wp_marks (F := Fence.wide) (n := 0) hf hb trivial ((wpIn_wide (n := 0)).2 h) rfl)
theorem bodyPostM_none {P : Program} {fn : Func} {R : Ending → World → Prop} {t : Array Value} {w : World} {v : Value} (hv : (results fn t).run P w = .ok v w) (hR : R (.returned v) w) :
    bodyPostM Fence.wide 0 P fn R .ret { tmps := t, defers := [] } w := ⟨_, hv, hR⟩
theorem bodyPostM_one {P : Program} {fn : Func} {R : Ending → World → Prop} {t : Array Value} {w : World} {v : Value} {D : Nat} (hD : w.heap[D]? = some (.deferred (some [])))
    (hv : (results fn t).run P (w.putObj D (.deferred none)) = .ok v (w.putObj D (.deferred none))) (hR : R (.returned v) (w.putObj D (.deferred none))) :
    bodyPostM Fence.wide 0 P fn R .ret { tmps := t, defers := [{ target := .collected D, args := #[] }] } w :=
  ⟨by simp, .inl ⟨_, _, rfl, run_takeDeferred hD, _, hv, hR⟩⟩
end Go.Proofs.YtiohhajkegpebaaGreatDoor
namespace Go.Proofs.YtiohhajkegpebaaGreatDoor
open Go.RowKit

section
variable {P : Program} {Q : Exit → Act → World → Prop} {ops : Array Oper} {md : Region.Mode} {S : World → Prop}

theorem oper_inRound {l n : Nat} {o : Oper} {a : Act} {w : World} {next : Act → World → Prop} (hnd : ∀ c, o.op ≠ .defer c) (h : o.wp P a w next Q) :
    o.wpIn (Fence.wide.inRound l) n P a w next Q := by
  refine ⟨fun _ _ => trivial, ?_⟩
  rw [Oper.semAt_eq _ _ _ hnd]
  unfold Oper.wp at h
  revert h
  generalize (execOp a.eval o).run P w = r
  intro h
  have hd : (Fence.wide.inRound l).depth.isSome = true → 1 ≤ n := fun hh => by simp [Fence.wide] at hh
  cases r with
  | ok nx w' =>
    cases nx with
    | value v => exact h
    | skip => exact h
    | defer d => exact h
    | enter f args => exact ⟨hd, CallsIn.inRound l (callsIn_wide.2 h)⟩
    | row row args => exact ⟨hd, fun c cs _ => let ⟨v, w2, r, s⟩ := h c cs; ⟨v, w2, r, stepsIn_wide.2 s⟩⟩
    | _ => exact h.elim
  | halt hh w' => cases hh <;> first | exact h | exact h.elim

/-- No operation of the region is a defer. -/
def noDefer (ops : Array Oper) : Bool := ops.all fun o => match o.op with | .defer _ => false | _ => true
theorem noDefer_spec (h : noDefer ops = true) {j : Nat} {o : Oper} (ho : ops[j]? = some o) : ∀ c, o.op ≠ .defer c := fun c e => by
  unfold noDefer at h
  rw [Array.all_eq_true] at h
  obtain ⟨hj, rfl⟩ := Array.getElem?_eq_some_iff.1 ho
  have := h j hj
  rw [e] at this
  cases this

theorem any_inRound {l n : Nat} (hnd : noDefer ops = true) (hL : ¬ LetsOut Q) : ∀ (fuel : Nat) (listed : Array Bool) (a : Act) (w : World), wpAny P md ops Q fuel listed a w → wpAnyIn (Fence.wide.inRound l) n P md ops Q fuel listed a w
  | 0, _, _, _, h => h
  | fuel + 1, listed, a, w, h => ⟨h.1, fun i hi => by
      have h1 := h.2 i hi
      unfold wpOp at h1
      unfold wpOpIn
      cases ho : ops[i]? with
      | none => rw [ho] at h1; exact any_inRound hnd hL fuel _ _ _ h1
      | some o =>
        rw [ho] at h1
        simp only at h1 ⊢
        split at h1
        · rename_i hw
          rw [if_pos hw]
          rcases h1 with h1 | h1
          · exact oper_inRound (noDefer_spec hnd ho) (Oper.wp_mono (fun a w h2 => any_inRound hnd hL fuel _ a w h2) h1)
          · exact absurd h1.2 hL
        · rename_i hw
          rw [if_neg hw]
          exact ⟨fun _ _ => trivial, any_inRound hnd hL fuel _ _ _ h1⟩⟩

theorem wpIn_region_held_round {l n id : Nat} {a : Act} {w : World} (S : World → Prop) (hm : P.follows .mixedOrders = true) (hnd : noDefer ops = true) (hL : ¬ LetsOut Q)
    (h : wpAnyH P .any ops Q S ops.size (Array.replicate ops.size false) a w.drew) : (Code.region id ops true).wpIn (Fence.wide.inRound l) n P Q a w :=
  wpIn_region_any hm (any_inRound hnd hL _ _ _ _ (wpAny_of_held _ _ _ _ h))

/-- One operation alone may come up. -/
theorem wpAnyH_one {i fuel : Nat} {o : Oper} {listed : Array Bool} {a : Act} {w : World} (hr : Region.ready md ops listed = [i]) (ho : ops[i]? = some o) (hg : o.guard = none)
    (h : ∀ K : Act → World → Prop, (∀ a w, S w → wpAnyH P md ops Q S fuel (listed.setIfInBounds i true) a w → K a w) → o.wp P a w K Q) : wpAnyH P md ops Q S (fuel + 1) listed a w := by
  refine wpAnyH_all hr (by simp) fun j hj => ?_
  obtain rfl : j = i := by simpa using hj
  unfold wpOp
  rw [ho]
  have hw : Region.wanted o (yielded ops a.tmps) = true := by simp [Region.wanted, hg]
  simp only [hw, if_true]
  exact .inl (h _ fun a w h1 h2 => ⟨h1, h2⟩)
/-- A light operation is taken first. -/
theorem wpAnyH_light {i fuel : Nat} {o : Oper} {v : Value} {listed : Array Bool} {a : Act} {w : World} (ho : ops[i]? = some o) (hs : Region.noSelect ops = true) (hf : Region.free md ops listed i = true)
    (hr : (Region.ready md ops listed).contains i = true) (hQ : ∀ c a w, Q (.panic c) (a.put o.dst v) w → Q (.panic c) a w) (hg : o.guard = none) (hy : ∀ w, S w → (execOp a.eval o).run P w = .ok (.value v) w) (hS : S w)
    (h : wpAnyH P md ops Q S fuel (listed.setIfInBounds i true) (a.put o.dst v) w) : wpAnyH P md ops Q S (fuel + 1) listed a w :=
  wpAnyH_take ho hs hf hr hQ (.inl ⟨by simp [Region.wanted, hg], hy⟩) hS h
end

section
variable {P : Program} {α : Type} (C : Codec α) {w : World} {M : Nat → Prop} {B : Nat} {l l' : List α} {o : Oper} {a : Act} {K : Act → World → Prop} {Q : Exit → Act → World → Prop} {t e : TypeId} {bytes : Nat}
/-- append, as one operation. -/
theorem wp_append_Own (T : SlT P C.n t e bytes) (s x : Operand)
    (ho : o.op = .call { callee := .builtin .append, args := #[s, x], argTypes := #[t, t] })
    {v : Value} (hs : a.eval s = v) (hown : Own C M w B e v l)
    {x' : Value} (hx : a.eval x = x') (hr : SlR C (fun b => M b ∨ v.ownBlock = some b) w x' l')
    (h63 : l.length + l'.length ≤ maxLen) (hbytes : (l.length + l'.length) * bytes ≤ 140737488355328) (hbase : B ≤ w.heap.size)
    (h : ∀ A' c' L w', Hid (L = l ++ l') → Own C M w' B e (.slice A' L.length c') L → Below B w w' → w.grownBy w' v.ownBlock → ((Value.slice A' L.length c').ownBlock = v.ownBlock ∨ (Value.slice A' L.length c').ownBlock = some w.heap.size) →
      K (a.put o.dst (.slice A' L.length c')) w') : o.wp P a w K Q := by
  obtain ⟨i, z, hi, hz, h1, h2, h3⟩ := T.hi
  obtain ⟨A, n, c, xs, rfl, hn, hc, hm, he, ha⟩ := hr
  obtain ⟨v', w', hrun, h5, h6, h7⟩ := run_append_Own (P := P) C t o.type e i z bytes T.ht hi hz h1 h2 h3 hown A n c xs he hn
    (fun h0 => by obtain ⟨b, off, rfl, _, _, hcell⟩ := ha h0; exact ⟨b, off, rfl, hcell⟩) h63 hbytes hbase
  obtain ⟨A', c', rfl, _⟩ := h5.shape
  unfold Oper.wp execOp
  simp only [ho, resolve, invoke, builtin, Sem.run_bind, Sem.run_pure, Result.andThen_ok, List.map_toArray, List.map_cons, List.map_nil, hs, hx, hrun]
  exact h A' c' _ w' (Lib.hid rfl) h5 ((Below.refl _ _).grown h6 hbase fun k hk => hown.base k hk) h6 h7
/-- append of one element that has been laid in a block of its own. -/
theorem wp_push_Own (T : SlT P C.n t e bytes) (s x : Operand)
    (ho : o.op = .call { callee := .builtin .append, args := #[s, x], argTypes := #[t, t] })
    {v : Value} (hs : a.eval s = v) (hown : Own C M w B e v l) {cs : List Value} {y : α} (hx : a.eval x = .slice (some ⟨w.heap.size, 0, none⟩) 1 1)
    (hr : C.rd (fun b => M b ∨ v.ownBlock = some b) w cs y) (hM : ∀ b, M b → b < w.heap.size)
    (h63 : l.length + 1 ≤ maxLen) (hbytes : (l.length + 1) * bytes ≤ 140737488355328) (hbase : B ≤ w.heap.size)
    (h : ∀ A' c' L w', Hid (L = l ++ [y]) → Own C M w' B e (.slice A' L.length c') L → Below B w w' → w.grownBy w' v.ownBlock → ((Value.slice A' L.length c').ownBlock = v.ownBlock ∨ (Value.slice A' L.length c').ownBlock = some (w.heap.size + 1)) →
      K (a.put o.dst (.slice A' L.length c')) w') : o.wp P a (w.alloc (.cells cs.toArray e)) K Q := by
  have hal : Below w.heap.size w (w.alloc (.cells cs.toArray e)) := (Below.refl _ _).alloc (Nat.le_refl _) _
  refine wp_append_Own C T s x ho hs (hown.ext hal) hx (SlR.built e hr fun b hb => hb.elim (hM b) (hown.lt b)) h63 hbytes (by simp; omega) fun A' c' L w' hL h1 h2 h3 h4 => ?_
  refine h A' c' L w' hL h1 ((hal.mono hbase).trans h2) ⟨h3.os, h3.tape, h3.output, Nat.le_trans hal.size h3.size, fun k hk hne => (h3.block k (by simp; omega) hne).trans (hal.block k hk)⟩ ?_
  rw [World.size_alloc] at h4
  exact h4
end
end Go.Proofs.YtiohhajkegpebaaGreatDoor
namespace Go.Proofs.YtiohhajkegpebaaGreatDoor
open Go.RowKit
theorem TStrs : SlT Tryz.prog 1 47 9 16 := SlT.mk' Tryz.underlying47 (by kernel_rfl : (Tryz.prog.info? 9).map (fun i => (i.zero, i.size, i.bytes)) = some (some (.string ⟨#[]⟩), 1, 16)) rfl
theorem oneStr : ∀ i z, Tryz.prog.info? 9 = some i → i.zero = some z → ∀ u ∈ z.cells.toList, u.oneCell' = true := by
  intro i z hi hz
  have h : (Tryz.prog.info? 9).map (fun i => i.zero) = some (some (.string ⟨#[]⟩)) := by kernel_rfl
  rw [hi] at h
  simp only [Option.map_some, Option.some.injEq] at h
  rw [hz] at h
  injection h with h
  subst h
  decide
theorem take_get {α : Type} (l : List α) (k : Nat) (h : k < l.length) : l.take (k + 1) = l.take k ++ [l[k]] := List.take_succ_eq_append_getElem h

theorem Own.flat {M M' : Nat → Prop} {w w' : World} {B : Nat} {e : TypeId} {v : Value} {l : List Str} (h : Own strC M w B e v l) (hk : ∀ b, v.ownBlock = some b → w'.heap[b]? = w.heap[b]?) : Own strC M' w' B e v l := by
  obtain ⟨xs, ho, he⟩ := h
  refine ⟨xs, ⟨ho.1, ?_⟩, ⟨he.1, fun i hi => he.2 i hi⟩⟩
  rcases ho.2 with hn | ⟨g, cap, cur, rfl, hb, hg, rest⟩
  · exact .inl hn
  · exact .inr ⟨g, cap, cur, rfl, hb, (hk g rfl).trans hg, rest⟩
def Apart (u v : Value) : Prop := ∀ b, u.ownBlock = some b → v.ownBlock ≠ some b
end Go.Proofs.YtiohhajkegpebaaGreatDoor
namespace Go.Proofs.YtiohhajkegpebaaGreatDoor
open Go.RowKit
set_option linter.unusedVariables false

set_option maxHeartbeats 1000000 in
theorem apply_ok (M : Nat → Prop) (r : Sm.Rule) (v : Value) (s : Str) (w : World) (hv : SlR strC M w v r.bars) (hs : s.length ≤ 4000000) (hto : r.to.length ≤ 10) :
    Calls Tryz.prog 123 #[.agg #[.string (bs r.ending), .string (bs r.to), v], .string (bs s)] w fun e w' =>
      e = .returned (.tuple #[.string (bs (Sm.applied r s)), .bool (Sm.fits r s)]) ∧ Below w.heap.size w w' := by
  obtain ⟨A, c, rfl, _, hcm⟩ := hv.form
  have hn := hv.len_le
  unfold maxLen at hn
  have hc := Tryz.strings_CutSuffix (bs s) (bs r.ending)
  go_enter Tryz.func123, Tryz.ntmps123
  have hbw := (Below.refl w.heap.size w).alloc (Nat.le_refl _) (.cells #[.string (bs r.ending), .string (bs r.to), .slice A r.bars.length c] 151)
  have k1 := Blk.new w 151 #[.string (bs r.ending), .string (bs r.to), .slice A r.bars.length c]
  replace hv := hv.ext hbw
  obtain ⟨p10, p11, p12, _⟩ := k1.three
  go_wp2_with fail
  refine (hc _ (by rw [bs_size]; omega)).mono ?_
  rintro e w1 ⟨rfl, hw1⟩
  rw [bs_toList, bs_toList]
  rw [← hw1] at hbw k1 hv p10 p11 p12
  clear hc hw1 k1
  show _
  have hfr : (⟨(Lib.trimSuffix s r.ending).toArray⟩ : ByteArray) = bs (Lib.trimSuffix s r.ending) := rfl
  rw [hfr]
  clear hfr
  obtain ⟨ok, hok⟩ : ∃ b, Lib.hasSuffix s r.ending = b := ⟨_, rfl⟩
  rw [hok]
  cases ok with
  | false =>
    have hf : Sm.fits r s = false := by simp [Sm.fits, hok]
    have Hf := Lib.hid hf
    clear hf hok
    go_wp2
    all_goals refine bodyPost_ret (v := .tuple #[.string (bs (s)), .bool false]) (by simp [results, Tryz.results123, go_sem]) rfl ?_
    all_goals exact ⟨by rw [Hf.out, Sm.applied_not Hf.out], hbw⟩
  | true =>
    have htr : Lib.trimSuffix s r.ending = s.take (s.length - r.ending.length) := by unfold Lib.trimSuffix; rw [if_pos hok]
    have hle : r.ending.length ≤ s.length := by
      unfold Lib.hasSuffix at hok
      exact (List.isSuffixOf_iff_suffix.1 hok).length_le
    obtain ⟨fr, hfr⟩ : ∃ fr, Lib.trimSuffix s r.ending = fr := ⟨_, rfl⟩
    rw [hfr]
    have hfl : fr.length = s.length - r.ending.length := by rw [← hfr, htr, List.length_take]; omega
    by_cases h3 : r.ending.length + 3 ≤ s.length
    · have hlt : ((fr.length : Int) < 3) = False := by simp; omega
      have Hok := Lib.hid hok; have Htr := Lib.hid htr; have Hfr := Lib.hid hfr
      clear hok htr hfr
      go_wp2
      go_loop [28] (fun i => ∃ k : Nat, k ≤ r.bars.length ∧ i = .int .i64 k ∧ Hid (∀ (j : Nat) (hj : j < r.bars.length), j < k → Lib.hasSuffix s r.bars[j] = false)) (fun i => r.bars.length - (intOf i).toNat)
      case atStart => exact ⟨0, Nat.zero_le _, rfl, Lib.hid fun j _ h => absurd h (by omega)⟩
      case round =>
        obtain ⟨k, hk, rfl, hpre⟩ := hrel
        by_cases hlk : k < r.bars.length
        · obtain ⟨b, off, rfl, _, _, hcell, _⟩ := hv.strAt hlk
          have hc := Tryz.strings_HasSuffix (bs s) (bs r.bars[k])
          obtain ⟨x, hx⟩ : ∃ x, x = r.bars[k] := ⟨_, rfl⟩
          rw [← hx] at hcell hc
          have Hx := Lib.hid hx
          clear hx
          go_wp2_with fail
          refine (hc _ (by rw [bs_size]; omega)).mono ?_
          rintro e w2 ⟨rfl, rfl⟩
          rw [bs_toList, bs_toList]
          clear hc
          cases ht : Lib.hasSuffix s x with
          | true =>
            go_wp2
            refine bodyPost_ret (v := .tuple #[.string (bs (s)), .bool false]) (by simp [results, Tryz.results123, go_sem]) rfl ?_
            have hf : Sm.fits r s = false := by
              have := any_true r.bars (Lib.hasSuffix s) k hlk (by rw [← Hx.out]; exact ht)
              simp [Sm.fits, this]
            exact ⟨by rw [hf, Sm.applied_not hf], hbw⟩
          | false =>
            go_wp2
            go_round
            case rel => exact ⟨k + 1, by omega, by go_num, Lib.hid fun j hj hjk => by
              by_cases e : j = k
              · subst e; rw [← Hx.out]; exact ht
              · exact hpre.out j hj (by omega)⟩
            case measure => simp [intOf]; omega
        · have hcat : (fr.length + r.to.length ≤ 9223372036854775807) = True := by simp; omega
          go_wp2
          refine bodyPost_ret (v := .tuple #[.string (bs (fr ++ r.to)), .bool true]) (by simp [results, Tryz.results123, go_sem]) rfl ?_
          have hf : Sm.fits r s = true := by
            have := any_false r.bars (Lib.hasSuffix s) fun i hi => hpre.out i hi (by omega)
            simp [Sm.fits, this, Hok.out, h3]
          refine ⟨?_, hbw⟩
          rw [hf, Sm.applied_fits hf, Sm.cut, ← Htr.out, Hfr.out]
    · have hlt : ((fr.length : Int) < 3) = True := by simp; omega
      have hf : Sm.fits r s = false := by simp [Sm.fits]; intro _ h; omega
      have Hf := Lib.hid hf
      clear hf hok
      go_wp2
      all_goals refine bodyPost_ret (v := .tuple #[.string (bs (s)), .bool false]) (by simp [results, Tryz.results123, go_sem]) rfl ?_
      all_goals exact ⟨by rw [Hf.out, Sm.applied_not Hf.out], hbw⟩
end Go.Proofs.YtiohhajkegpebaaGreatDoor

/-
  Contracts and plain facts, one after another: Queries in memory: a node's four cells, its parts a row of nodes; f: how deep the rows go. No program is named here; rank.stems: the words of a leaf of a query; rank.stems: the iterator, at a leaf of a query; Sorting and compacting a row of texts that a call made; strings.Split at a space; the words of a text.
-/
import Derived.Test.YtnlhocbaighedaaGreatDoorR7
import Derived.Test.YtnlhocbaighedaaGreatDoorR4
import Derived.Test.YtnlhocbaighedaaGreatDoorR9
import Derived.Test.YtnlhocbaighedaaGreatDoorR8
import Derived.Test.YtnlhocbaighedaaGreatDoorShelf2
import Derived.Test.YtnlhocbaighedaaGreatDoorR2
import Derived.Stop.RegionWithIn
import Derived.Laws.EntriesVeiled
import Derived.Sort.OwnSorted
import Derived.Lib.OwnBridge
import Derived.Below
import Derived.Deep.QuietTactic
import Derived.BigQuiet
import Derived.Lib.Bytealg
import Derived.Outline
namespace Go.Proofs.YtnlhocbaighedaaGreatDoor
open Go.RowKit
set_option linter.unusedVariables false
structure QRd where
 rd : (Nat → Prop) → World → List Value → Q → Prop
 len : ∀ {M : Nat → Prop} {w : World} {cs : List Value} {a : Q}, rd M w cs a → cs.length = 4
 one : ∀ {M : Nat → Prop} {w : World} {cs : List Value} {a : Q}, rd M w cs a → ∀ u ∈ cs, u.oneCell' = true
 keep : ∀ {M : Nat → Prop} {w w' : World} {cs : List Value} {a : Q}, rd M w cs a → (∀ b, b < w.heap.size → ¬ M b → w'.heap[b]? = w.heap[b]?) → w.heap.size ≤ w'.heap.size → rd M w' cs a
 sub : ∀ {M M' : Nat → Prop} {w : World} {cs : List Value} {a : Q}, rd M w cs a → (∀ b, b < w.heap.size → M' b → M b) → rd M' w cs a
def QRd.codec (c : QRd) : Codec Q := ⟨4, by omega, c.rd, c.len, c.one, c.keep, c.sub⟩
def qStep (c : QRd) : QRd where
 rd M w cs q := ∃ v, cs = [.int .i64 q.kind, .string (bs q.text), .int .i64 q.num, v] ∧ (-9223372036854775808 ≤ q.kind ∧ q.kind ≤ 9223372036854775807) ∧ q.text.length ≤ maxLen ∧ (-9223372036854775808 ≤ q.num ∧ q.num ≤ 9223372036854775807) ∧ SlR c.codec M w v q.parts
 len h := by obtain ⟨v, rfl, _⟩ := h; rfl
 one h u hu := by
  obtain ⟨v, rfl, _, _, _, hv⟩ := h
  obtain ⟨A, c, rfl, _⟩ := hv.form
  simp only [List.mem_cons, List.not_mem_nil, or_false] at hu
  rcases hu with rfl | rfl | rfl | rfl <;> rfl
 keep h hk hs := by
  obtain ⟨v, e, h1, h2, h3, hv⟩ := h
  exact ⟨v, e, h1, h2, h3, hv.keep hk hs⟩
 sub h hm := by
  obtain ⟨v, e, h1, h2, h3, hv⟩ := h
  exact ⟨v, e, h1, h2, h3, hv.sub hm⟩
def qc : Nat → QRd
 | 0 => ⟨fun _ _ _ _ => False, fun h => h.elim, fun h => h.elim, fun h => h.elim, fun h => h.elim⟩
 | f + 1 => qStep (qc f)
/-- a query of f levels at most -/
def qF (f : Nat) : Codec Q := (qc f).codec
theorem Els.weaken {α : Type} {C D : Codec α} {M : Nat → Prop} {w : World} {xs : List Value} {l : List α} (hn : C.n = D.n) (h : Els C M w xs l) (hw : ∀ cs, ∀ a ∈ l, C.rd M w cs a → D.rd M w cs a) : Els D M w xs l := by
 refine ⟨by rw [h.1, hn], fun i hi => ?_⟩
 have := hw _ _ (List.getElem_mem hi) (h.2 i hi)
 rwa [hn] at this
theorem SlR.weaken {α : Type} {C D : Codec α} {M : Nat → Prop} {w : World} {v : Value} {l : List α} (hn : C.n = D.n) (h : SlR C M w v l) (hw : ∀ cs, ∀ a ∈ l, C.rd M w cs a → D.rd M w cs a) : SlR D M w v l := by
 obtain ⟨A, n, c, xs, rfl, h1, h2, h3, h4, h5⟩ := h
 exact ⟨A, n, c, xs, rfl, h1, h2, h3, h4.weaken hn hw, h5⟩
theorem qF_up : ∀ {f : Nat} {M : Nat → Prop} {w : World} {cs : List Value} {q : Q}, (qF f).rd M w cs q → (qF (f + 1)).rd M w cs q
 | 0, _, _, _, _, h => h.elim
 | f + 1, _, _, _, _, ⟨v, e, h1, h2, h3, hv⟩ => ⟨v, e, h1, h2, h3, SlR.weaken (C := qF f) (D := qF (f + 1)) rfl hv fun cs a _ h => qF_up h⟩
theorem qF_mono {f g : Nat} (hfg : f ≤ g) {M : Nat → Prop} {w : World} {cs : List Value} {q : Q} (h : (qF f).rd M w cs q) : (qF g).rd M w cs q := by
 induction hfg with
 | refl => exact h
 | step _ ih => exact qF_up ih
theorem SlR.qMono {f g : Nat} (hfg : f ≤ g) {M : Nat → Prop} {w : World} {v : Value} {l : List Q} (h : SlR (qF f) M w v l) : SlR (qF g) M w v l :=
 SlR.weaken (C := qF f) (D := qF g) rfl h fun _ _ _ h => qF_mono hfg h
/-- a node's value -/
def QAt (f : Nat) (M : Nat → Prop) (w : World) (v : Value) (q : Q) : Prop :=
 ∃ A c, v = .agg #[.int .i64 q.kind, .string (bs q.text), .int .i64 q.num, .slice A q.parts.length c] ∧ (-9223372036854775808 ≤ q.kind ∧ q.kind ≤ 9223372036854775807) ∧ q.text.length ≤ maxLen ∧ (-9223372036854775808 ≤ q.num ∧ q.num ≤ 9223372036854775807) ∧ SlR (qF f) M w (.slice A q.parts.length c) q.parts
theorem QAt.ext {f : Nat} {M : Nat → Prop} {w w' : World} {v : Value} {q : Q} (h : QAt f M w v q) (hb : Below w.heap.size w w') : QAt f M w' v q := by
 obtain ⟨A, c, e, h1, h2, h3, hv⟩ := h
 exact ⟨A, c, e, h1, h2, h3, hv.ext hb⟩
theorem QAt.mono {f g : Nat} (hfg : f ≤ g) {M : Nat → Prop} {w : World} {v : Value} {q : Q} (h : QAt f M w v q) : QAt g M w v q := by
 obtain ⟨A, c, e, h1, h2, h3, hv⟩ := h
 exact ⟨A, c, e, h1, h2, h3, hv.qMono hfg⟩
theorem QAt.of_rd {f : Nat} {M : Nat → Prop} {w : World} {a : Array Value} {q : Q} (h : (qF f).rd M w (Value.agg a).cells.toList q) : ∃ g, f = g + 1 ∧ QAt g M w (.agg a) q := by
 cases f with
 | zero => exact h.elim
 | succ g =>
  obtain ⟨v, e, h1, h2, h3, hv⟩ := h
  obtain ⟨A, c, rfl, _⟩ := hv.form
  have h4 : a.toList = _ := e
  refine ⟨g, rfl, A, c, ?_, h1, h2, h3, hv⟩
  rw [← Array.toArray_toList (xs := a), h4]
theorem QAt.rd {f : Nat} {M : Nat → Prop} {w : World} {v : Value} {q : Q} (h : QAt f M w v q) : (qF (f + 1)).rd M w v.cells.toList q := by
 obtain ⟨A, c, rfl, h1, h2, h3, hv⟩ := h
 exact ⟨_, rfl, h1, h2, h3, hv⟩
/-- part k of a row -/
theorem SlR.qAt {f : Nat} {M : Nat → Prop} {w : World} {A : Option Addr} {n c : Nat} {l : List Q} (h : SlR (qF f) M w (.slice A n c) l) {k : Nat} (hk : k < l.length) :
  ∃ b off g A2 c2, A = some ⟨b, off, none⟩ ∧ f = g + 1 ∧ ¬ M b ∧ b < w.heap.size ∧ w.cell? ⟨b, off + k * 4, none⟩ = some (.int .i64 l[k].kind) ∧ w.cell? ⟨b, off + k * 4 + 1, none⟩ = some (.string (bs l[k].text)) ∧
   w.cell? ⟨b, off + k * 4 + 2, none⟩ = some (.int .i64 l[k].num) ∧ w.cell? ⟨b, off + k * 4 + 3, none⟩ = some (.slice A2 l[k].parts.length c2) ∧
   QAt g M w (.agg #[.int .i64 l[k].kind, .string (bs l[k].text), .int .i64 l[k].num, .slice A2 l[k].parts.length c2]) l[k] := by
 obtain ⟨b, off, cs, rfl, hM, hb, hr, hc⟩ := h.at_ hk
 cases f with
 | zero => exact hr.elim
 | succ g =>
  obtain ⟨v, rfl, h1, h2, h3, hv⟩ := hr
  obtain ⟨A2, c2, rfl, _⟩ := hv.form
  exact ⟨b, off, g, A2, c2, rfl, rfl, hM, hb, hc 0 _ rfl, hc 1 _ rfl, hc 2 _ rfl, hc 3 _ rfl, A2, c2, rfl, h1, h2, h3, hv⟩
namespace Q
mutual
/-- how much a query holds -/
def bulk : Q → Nat
 | .node _ t _ l => t.length + 4 + bulks l
def bulks : List Q → Nat
 | [] => 0
 | a :: l => bulk a + bulks l
end
theorem bulks_mem {l : List Q} {q : Q} (h : q ∈ l) : q.bulk ≤ bulks l := by
 induction l with
 | nil => cases h
 | cons a l ih =>
  rw [bulks]
  rcases List.mem_cons.1 h with e | e
  ·rw [e]; omega
  ·have := ih e; omega
theorem bulk_eq (q : Q) : q.bulk = q.text.length + 4 + bulks q.parts := by
 cases q; rw [bulk]; rfl
theorem bulks_len (l : List Q) : 4 * l.length ≤ bulks l := by
 induction l with
 | nil => simp [bulks]
 | cons a l ih => rw [bulks, bulk_eq, List.length_cons]; omega
/-- as many nodes as levels allow weigh no more than the whole -/
theorem pre_bulk : ∀ (f : Nat) (q : Q), (pre f q).length * 4 ≤ q.bulk
 | 0, q => by simp [pre]
 | f + 1, q => by
  rw [pre, List.length_cons, bulk_eq]
  have key : ∀ l : List Q, (l.flatMap (pre f)).length * 4 ≤ bulks l := by
   intro l
   induction l with
   | nil => simp
   | cons a l ih =>
    rw [List.flatMap_cons, List.length_append, bulks]
    have := pre_bulk f a
    omega
  have := key q.parts
  omega
theorem flat_bulk (f : Nat) (l : List Q) : (l.flatMap (pre f)).length * 4 ≤ bulks l := by
 induction l with
 | nil => simp
 | cons a l ih =>
  rw [List.flatMap_cons, List.length_append, bulks]
  have := pre_bulk f a
  omega
theorem take_bulk : ∀ {l : List Q} {m : Nat} (h : m < l.length), bulks (l.take m) + l[m].bulk ≤ bulks l
 | a :: l, 0, h => by simp [bulks]
 | a :: l, m + 1, h => by
  have := take_bulk (l := l) (m := m) (by simpa using h)
  rw [List.take_succ_cons, bulks, bulks, List.getElem_cons_succ]
  omega
theorem lev_le : ∀ (f : Nat) (q : Q), lev f q ≤ f
 | 0, q => by simp [lev]
 | f + 1, q => by
  rw [lev]
  have : top (q.parts.map (lev f)) ≤ f := top_le.2 fun a ha => by
   obtain ⟨p, _, rfl⟩ := List.mem_map.1 ha
   exact lev_le f p
  omega
theorem top_lev_le (f : Nat) (l : List Q) : top (l.map (lev f)) ≤ f := top_le.2 fun a ha => by
 obtain ⟨p, _, rfl⟩ := List.mem_map.1 ha
 exact lev_le f p
theorem pre_mem_bulk : ∀ (f : Nat) (q : Q), ∀ p ∈ pre f q, p.bulk ≤ q.bulk
 | 0, q, p, h => by cases h
 | f + 1, q, p, h => by
  rw [pre] at h
  rcases List.mem_cons.1 h with e | e
  ·rw [e]; exact Nat.le_refl _
  ·obtain ⟨r, hr, hp⟩ := List.mem_flatMap.1 e
   have h1 := pre_mem_bulk f r p hp
   have h2 := bulks_mem hr
   rw [bulk_eq q]; omega
end Q
end Go.Proofs.YtnlhocbaighedaaGreatDoor
namespace Go.Proofs.YtnlhocbaighedaaGreatDoor
open Go.RowKit
set_option linter.unusedVariables false
theorem boxPairV (w : World) (cs : Array Value) (t : TypeId) (ds : Array Value) (t' : TypeId) : ∃ W g, (w.alloc (.cells cs t)).alloc (.cells ds t') = W ∧ w.heap.size = g ∧ W.heap.size = g + 1 + 1 ∧ Blk W g t cs ∧ Blk W (g + 1) t' ds ∧ Below w.heap.size w W := by
 refine ⟨_, _, rfl, rfl, by simp, (Blk.new w t cs).alloc _, ?_, ((Below.refl _ _).alloc (Nat.le_refl _) _).alloc (by simp) _⟩
 have := Blk.new (w.alloc (.cells cs t)) t' ds
 rw [World.size_alloc] at this
 exact this
theorem Blk.fourV {w : World} {g : Nat} {t : TypeId} {a b c d : Value} (h : Blk w g t #[a, b, c, d]) : w.cell? ⟨g, 0, none⟩ = some a ∧ w.cell? ⟨g, 1, none⟩ = some b ∧ w.cell? ⟨g, 2, none⟩ = some c ∧ w.cell? ⟨g, 3, none⟩ = some d ∧ g < w.heap.size :=
 ⟨h.cell 0, h.cell 1, h.cell 2, h.cell 3, h.lt⟩
/-- what visit hands back -/
def VisitAt (n : Nat) (J Jx : Nat → (Nat → Prop) → World → Prop) (e : Ending) (W' : World) : Prop := (e = .returned (.bool true) ∧ ∃ S', J n S' W') ∨ (e = .returned (.bool false) ∧ ∃ k S', Jx k S' W')
/-- between the rounds of the pieces -/
def InV (gy g2 g : Nat) (yv : Value) (rv : Bool) (J : (Nat → Prop) → World → Prop) (U : Nat → Prop) (W : World) : Prop :=
 ∃ T, (∀ b, U b ↔ T b ∨ b = g2) ∧ J T W ∧ Blk W gy 79 #[yv] ∧ ¬ T gy ∧ Blk W g2 4 #[.bool rv] ∧ ¬ T g2 ∧ ¬ T g ∧ (∀ b, T b → b < W.heap.size)
theorem InV.kept {gy g2 g n0 n3 : Nat} {yv : Value} {rv : Bool} {J : (Nat → Prop) → World → Prop} (hJ : ∀ T V V', J T V → Kept n0 T V V' → J T V') (h0 : n0 ≤ g) (h3 : n0 ≤ n3) (hy3 : gy < n3) (h23 : g2 < n3) (hyg : gy ≠ g) (h2g : g2 ≠ g) {U : Nat → Prop} {V V' : World} (h : InV gy g2 g yv rv J U V) (hk : KeptX (fun b => b = g) n3 U V V') : InV gy g2 g yv rv J U V' := by
 obtain ⟨T, hU, hj, ky, hTy, kr, hT2, hTg, hlt⟩ := h
 refine ⟨T, hU, hJ T _ _ hj ⟨hk.os, hk.tape, hk.output, hk.size, fun b hb ho => hk.same b hb (fun e => ?_) ?_⟩, ky.keep (hk.same gy ky.lt hyg (.inl hy3)), hTy, kr.keep (hk.same g2 kr.lt h2g (.inl h23)), hT2, hTg, fun b hb => Nat.lt_of_lt_of_le (hlt b hb) hk.size⟩
 ·rcases ho with h | h
  ·omega
  ·exact hTg (e ▸ h)
 ·rcases ho with h | h
  ·exact .inl (by omega)
  ·exact .inr ((hU b).2 (.inl h))
set_option maxRecDepth 100000 in
set_option maxHeartbeats 8000000 in
theorem visit_leaf (gy gv : Nat) (t : Str) (ht : t.length ≤ 4000000) (nv : Int) (A : Option Addr) (n c : Nat) (l : Nat) (J Jx : Nat → (Nat → Prop) → World → Prop) (S : Nat → Prop) (W : World) (n0 : Nat) (hn0 : n0 ≤ W.heap.size)
  (ky : Blk W gy 79 #[.func (.yield l) #[] #[]]) (hSy : ¬ S gy) (hS : ∀ b, S b → b < W.heap.size)
  (hJ : ∀ k S W1 W2, J k S W1 → Kept n0 S W1 W2 → J k S W2) (hJx : ∀ k S W1 W2, Jx k S W1 → Kept n0 S W1 W2 → Jx k S W2)
  (hY : ∀ k (h : k < (splitS t).length) S W1, J k S W1 → n0 ≤ W1.heap.size → YieldAt Fence.wide 0 Tryz.prog l (encW (Sm.stem (splitS t)[k])) W1 fun e W' => ∃ S', Chg S S' W1 W' ∧ ((e = .returned (.bool true) ∧ J (k + 1) S' W') ∨ (e = .returned (.bool false) ∧ Jx (k + 1) S' W')))
  (h0 : J 0 S W) :
  CallsIn Fence.wide 0 Tryz.prog 67 #[.agg #[.int .i64 2, .string (bs t), .int .i64 nv, .slice A n c], .pointer (some ⟨gy, 0, none⟩), .pointer (some ⟨gv, 0, none⟩)] W (VisitAt (splitS t).length J Jx) := by
 obtain ⟨W1, g1, hW1, hg1, hs1, kq, kr, hal⟩   := boxPairV W #[.int .i64 2, .string (bs t), .int .i64 nv, .slice A n c] 28 #[.bool false] 4
 obtain ⟨q0, q1, q2, q3, _⟩ := kq.fourV
 have hsp := splitSeq_ok t W1
 have HW1 := Lib.hid hW1; have Hg1 := Lib.hid hg1; have Hsp := Lib.hid hsp; have Hkr := Lib.hid kr; have Hal := Lib.hid hal; have HJ := Lib.hid hJ; have HJx := Lib.hid hJx; have HY := Lib.hid hY; have HS := Lib.hid hS; have Hky := Lib.hid (ky.ext hal); have Hkq := Lib.hid kq
 clear hsp kr hal hJ hJx hY hS kq
 refine callsIn_of_wp_marks (F := Fence.wide) (n := 0) Tryz.func67 rfl trivial ((wpIn_wide (n := 0)).2 ?_) rfl
 simp only [Tryz.ntmps67, List.size_toArray, List.length_cons, List.length_nil, Nat.reduceAdd, Nat.reduceSub, Array.replicate_succ, Array.replicate_zero, List.push_toArray, List.append_toArray, List.nil_append, List.cons_append]
 go_wp2_with fail
 clear hW1 hg1
 refine Hsp.out.mono ?_
 clear Hsp q0 q1 q2 q3
 rintro e w3 ⟨g, rfl, hg, hsz3, k0, k1, k2, hb3⟩
 go_wp2
 obtain ⟨g2, hg2⟩ : ∃ g2, g1 + 1 = g2 := ⟨_, rfl⟩
 have hWg : W.heap.size = g1 := Hg1.out
 have hgle : g2 < g := by omega
 have hz3 : g + 3 ≤ w3.heap.size := by omega
 clear hsz3
 rw [hg2]
 have hkr3 := Hkr.out.ext hb3
 rw [hg2] at hkr3
 have hky3 := Hky.out.ext hb3
 have hb13 := Hal.out.trans (hb3.mono Hal.out.size)
 have hgyl : gy < W.heap.size := ky.lt
 have Hb13 := Lib.hid hb13; have Hkr3 := Lib.hid hkr3; have Hky3 := Lib.hid hky3; have Hk0 := Lib.hid (And.intro k0 (And.intro k1 k2))
 clear k0 k1 k2 hb3 hkr3 hky3 hb13
 refine wp_rangeFunc_iterX (X := fun b => b = g) ?_ (spseq_iter g t ht) rfl (enters_of Tryz.func133 (by kernel_rfl) rfl) (fun _ => rfl)
  (fun k => InV gy g2 g (.func (.yield l) #[] #[]) false (J k)) (fun c k U V => c = .ret ∧ InV gy g2 g (.func (.yield l) #[] #[]) false (Jx k) U V) (fun b => S b ∨ b = g2) ?_ ?_ ?_ ?_ ?_
  (fun x => { tmps := #[.agg #[.int .i64 2, .string (bs t), .int .i64 nv, .slice A n c], .pointer (some ⟨gy, 0, none⟩), .pointer (some ⟨gv, 0, none⟩), .pointer (some ⟨g1, 0, none⟩), .pointer (some ⟨g2, 0, none⟩), .string (bs x),
   undef, undef, .pointer (some ⟨g1, 0, none⟩), .int .i64 2, .bool true, .bool true, undef, undef, .pointer (some ⟨g1, 1, none⟩), .string (bs t),
   .func (.func 133) #[] #[.pointer (some ⟨g + 1, 0, none⟩), .pointer (some ⟨g, 0, none⟩), .pointer (some ⟨g + 2, 0, none⟩)],
   .string (bs x), undef, undef, undef, undef, undef, undef, undef, undef, undef, undef, undef, undef, undef, undef, undef, undef, undef, undef, undef, undef], defers := [] }) ?_ ?_ ?_ ?_
 ·rintro b rfl; omega
 ·rintro b (h | h)
  ·have := HS.out b h; omega
  ·omega
 ·intro S' V hS' hbV
  obtain ⟨k0, k1, k2⟩ := Hk0.out
  have hno : ∀ b, g ≤ b → b < g + 3 → ¬ S' b := fun b h1 h2 h => by
   rcases hS' b h with (h' | h') | h'
   ·have := HS.out b h'; omega
   ·omega
   ·omega
  exact ⟨k0.ext hbV, hno _ (by omega) (by omega), k1.ext hbV, hno _ (by omega) (by omega), k2.ext hbV, hno _ (by omega) (by omega)⟩
 ·intro k U V V' h hk
  exact h.kept (HJ.out k) (n0 := n0) (by omega) (by omega) (by omega) (by omega) (by omega) (by omega) hk
 ·rintro c k U V V' ⟨hc, h⟩ hk
  exact ⟨hc, h.kept (HJx.out k) (n0 := n0) (by omega) (by omega) (by omega) (by omega) (by omega) (by omega) hk⟩
 ·refine ⟨S, fun b => Iff.rfl, HJ.out _ _ _ _ h0 (Kept.of_below Hb13.out), Hky3.out, hSy, Hkr3.out, fun h => ?_, fun h => ?_, fun b hb => ?_⟩
  ·have := HS.out _ h; omega
  ·have := HS.out _ h; omega
  ·have := HS.out _ hb; have := Hb13.out.size; omega
 ·intro l' x V K hK
  simp only [encW]
  gi_wp2_with (rw [Oper.semAt_eq _ _ _ (fun c h => by cases h)]; go_simp)
  exact hK
 ·rintro l' k hk U V ⟨T, hU, hj, ky2, hTy, kr2, hT2, hTg, hTl⟩ hlt hsz
  have hF1 : Fence.wide.fn 69 := trivial
  have hF3 : Fence.wide.depth = none := rfl
  have hF4 : (Fence.wide.inRound l').round = some l' := rfl
  obtain ⟨y0, y1, _⟩ := ky2.one
  obtain ⟨p, hp⟩ : ∃ p, (splitS t)[k] = p := ⟨_, rfl⟩
  have hpl : p.length ≤ maxLen := by
   have := (splitS_mem t p (by rw [← hp]; exact List.getElem_mem hk)).2
   unfold maxLen; omega
  have hof := fun V' => of_ok p hpl V'
  have hy := fun (V' : World) (hb : Below V.heap.size V V') => HY.out k hk T V' (HJ.out _ _ _ _ hj (Kept.of_below hb)) (by have := hb.size; omega)
  simp only [hp] at hy
  rw [hp]
  obtain ⟨q, hq⟩ : ∃ q, Sm.stem p = q := ⟨_, rfl⟩
  rw [hq] at hof hy
  have Hof := Lib.hid hof; have Hy := Lib.hid hy; have Hky2 := Lib.hid ky2
  clear hof hy hq hp hpl
  gi_wp2_with (rw [Oper.semAt_eq _ _ _ (fun c h => by cases h)]; go_simp)
  gi_region_with (first
   | (gi_at_call 69; go_loud (have hcd := CallsIn.inRound l' ((callsIn_wide (n := 0)).2 (Hof.out V.drew)); refine hcd.mono ?_; clear hcd; rintro e w5 ⟨rfl, hb5⟩; have hb05 : Below V.heap.size V w5 := (Below.refl V.heap.size V).drew.trans hb5; obtain ⟨fn, tmps, assign, body, hyy, hRR⟩ := Hy.out w5 hb05; dsimp only [encW] at hyy; obtain ⟨y2, y3, _⟩ := (Hky2.out.ext hb05).one))
   | (refine hRR.mono ?_; rintro e w6 ⟨T', hchg, hor4⟩; obtain ⟨tt, rfl⟩ : ∃ tt, e = .returned (.bool tt) := hor4.elim (fun h => ⟨_, h.1⟩) (fun h => ⟨_, h.1⟩); have Hor4 := Lib.hid hor4; clear hor4)
   | (rw [Oper.semAt_eq _ _ _ (fun c h => by cases h)]; go_simp))
  all_goals
   have hcU : Chg U (fun b => T' b ∨ b = g2) V w6 := by
    refine ⟨hchg.os.trans hb05.os, hchg.tape.trans hb05.tape, hchg.output.trans hb05.output, Nat.le_trans hb05.size hchg.size, fun b hb hn => ?_, fun b hb => ?_⟩
    ·exact (hchg.same b (Nat.lt_of_lt_of_le hb hb05.size) fun h => hn ((hU b).2 (.inl h))).trans (hb05.block b hb)
    ·rcases hb with h | h
     ·obtain ⟨h1, h2⟩ := hchg.own b h
      refine ⟨h1, h2.elim (fun h => .inl ((hU b).2 (.inl h))) fun h => .inr (Nat.le_trans hb05.size h)⟩
     ·rw [h]
      exact ⟨Nat.lt_of_lt_of_le kr2.lt (Nat.le_trans hb05.size hchg.size), .inl ((hU g2).2 (.inr rfl))⟩
   obtain ⟨ky6, hTy6⟩ := (Hky2.out.ext hb05).chg hTy hchg
   obtain ⟨kr6, hTr6⟩ := (kr2.ext hb05).chg hT2 hchg
   have hTg6 : ¬ T' g := fun h => (hchg.own g h).2.elim hTg fun h => by have := hb05.size; omega
   have HcU := Lib.hid hcU; have Hky6 := Lib.hid ky6; have Hkr6 := Lib.hid kr6
   clear hyy hRR y0 y1 y2 y3 hcU ky6 kr6 ky2 kr2 hj hb5
   obtain ⟨z0, z1, z2⟩ := Hkr6.out.one
   cases tt with
   | true =>
    have hj6 : J (k + 1) T' w6 := Hor4.out.elim (fun h => h.2) (fun h => by cases h.1)
    gi_wp2_with (rw [Oper.semAt_eq _ _ _ (fun c h => by cases h)]; go_simp)
    exact ⟨_, HcU.out, T', fun b => Iff.rfl, hj6, Hky6.out, hTy6, Hkr6.out, hTr6, hTg6, fun b hb => (hchg.own b hb).1⟩
   | false =>
    have hx6 : Jx (k + 1) T' w6 := Hor4.out.elim (fun h => by cases h.1) (fun h => h.2)
    gi_wp2_with (rw [Oper.semAt_eq _ _ _ (fun c h => by cases h)]; go_simp)
    have hs6 : (w6.setCell ⟨g2, 0, none⟩ (.bool false)).heap.size = w6.heap.size := by simp
    have hne : ∀ b, b ≠ g2 → (w6.setCell ⟨g2, 0, none⟩ (.bool false)).heap[b]? = w6.heap[b]? := fun b hb => Below.heap_setCell _ _ _ _ hb
    refine ⟨fun b => T' b ∨ b = g2, ⟨HcU.out.os, HcU.out.tape, HcU.out.output, by rw [hs6]; exact HcU.out.size, fun b hb hn => (hne b fun e => hn ((hU b).2 (.inr e))).trans (HcU.out.same b hb hn), fun b hb => by rw [hs6]; exact HcU.out.own b hb⟩, rfl, T', fun b => Iff.rfl, ?_, Hky6.out.keep (hne gy (by omega)), hTy6, ?_, hTr6, hTg6, fun b hb => by rw [hs6]; exact (hchg.own b hb).1⟩
    ·exact HJx.out _ _ _ _ hx6 ⟨rfl, rfl, rfl, by rw [hs6]; exact Nat.le_refl _, fun b hb ho => hne b fun e => by
      rcases ho with h | h
      ·omega
      ·exact hTr6 (e ▸ h)⟩
    ·have := Hkr6.out.set_ 0 (.bool false)
     simpa using this
 ·rintro D U V hD hUD ⟨T, hU, hj, ky2, hTy, kr2, hT2, hTg, hTl⟩ hWD
  obtain ⟨z0, z1, z2⟩ := kr2.one
  have hDg : D ≠ g2 := fun e => hUD ((hU D).2 (.inr e))
  have hTD : ¬ T D := fun h => hUD ((hU D).2 (.inl h))
  have Hkr2 := Lib.hid kr2
  clear kr2 ky2
  go_wp2
  have hne : ∀ b, b ≠ g2 → (V.setCell ⟨g2, 0, none⟩ (.bool true)).heap[b]? = V.heap[b]? := fun b hb => Below.heap_setCell _ _ _ _ hb
  have k9 : Blk (V.setCell ⟨g2, 0, none⟩ (.bool true)) g2 4 #[.bool true] := by
   have := Hkr2.out.set_ 0 (.bool true)
   simpa using this
  have hs9 : (V.setCell ⟨g2, 0, none⟩ (.bool true)).heap.size = V.heap.size := by simp
  obtain ⟨V9, hV9⟩ : ∃ V9, V.setCell ⟨g2, 0, none⟩ (.bool true) = V9 := ⟨_, rfl⟩
  rw [hV9] at hne k9 hs9 ⊢
  have hj9 : J (splitS t).length T V9 := HJ.out _ _ _ _ hj (by rw [← hV9]; exact ⟨rfl, rfl, rfl, by simp, fun b hb ho => Below.heap_setCell _ _ _ _ fun (e : b = g2) => by
   rcases ho with h | h
   ·omega
   ·exact hT2 (e ▸ h)⟩)
  have hj10 := HJ.out _ _ _ _ hj9 (Kept.putObj (r := D) (o := .deferred none) (by omega) hTD)
  have k10 : Blk (V9.putObj D (.deferred none)) g2 4 #[.bool true] := k9.keep (World.putObj_heap_other hDg.symm)
  obtain ⟨c0, _, _⟩ := k10.one
  exact bodyPostM_one ((hne D hDg).trans hWD) (v := .bool true) (by simp [results, Tryz.results67, go_sem, c0]) (.inl ⟨rfl, T, hj10⟩)
 ·rintro D c' k U V hD hUD ⟨rfl, T, hU, hj, ky2, hTy, kr2, hT2, hTg, hTl⟩ hWD
  have hDg : D ≠ g2 := fun e => hUD ((hU D).2 (.inr e))
  have hTD : ¬ T D := fun h => hUD ((hU D).2 (.inl h))
  have hj10 := HJx.out _ _ _ _ hj (Kept.putObj (r := D) (o := .deferred none) (by omega) hTD)
  have k10 : Blk (V.putObj D (.deferred none)) g2 4 #[.bool false] := kr2.keep (World.putObj_heap_other hDg.symm)
  obtain ⟨c0, _, _⟩ := k10.one
  clear k10 kr2 ky2
  go_wp2
  exact bodyPostM_one hWD (v := .bool false) (by simp [results, Tryz.results67, go_sem, c0]) (.inr ⟨rfl, k, T, hj10⟩)
end Go.Proofs.YtnlhocbaighedaaGreatDoor
namespace Go.Proofs.YtnlhocbaighedaaGreatDoor
open Go.RowKit
set_option linter.unusedVariables false
/-- What the iterator reads: the query. -/
def stFP (gq : Nat) (t : Str) (nv : Int) (A : Option Addr) (n c : Nat) (S : Nat → Prop) (w : World) : Prop := Blk w gq 28 #[.int .i64 2, .string (bs t), .int .i64 nv, .slice A n c] ∧ ¬ S gq
set_option maxRecDepth 100000 in
set_option maxHeartbeats 8000000 in
theorem stems_iter (gq : Nat) (t : Str) (ht : t.length ≤ 4000000) (nv : Int) (A : Option Addr) (n c : Nat) :
  Iter Tryz.prog 66 #[.pointer (some ⟨gq, 0, none⟩)] encW ((splitS t).map Sm.stem) (stFP gq t nv A n c) := by
 intro ll J Jx S W hFP hS hJ hJx hY h0
 have hmf : ∀ (fn : Fn) (first cap : Array Value) (w : World), (Instr.makeFunc fn first cap).run Tryz.prog w = .ok (.func fn first cap) w := fun _ _ _ _ => rfl
 refine callsIn_of_wp Tryz.func66 rfl trivial ?_ rfl
 simp only [Tryz.ntmps66, List.size_toArray, List.length_cons, List.length_nil, Nat.reduceAdd, Nat.reduceSub, Array.replicate_succ, Array.replicate_zero, List.push_toArray, List.append_toArray, List.nil_append, List.cons_append]
 have hF1 : Fence.wide.fn 67 := trivial
 have hF3 : Fence.wide.depth = none := rfl
 have hF4 : Fence.wide.round = none := rfl
 obtain ⟨W1, gy, hW1, hgy, hs1, ky, kv, hal⟩ := boxPairV W #[.func (.yield ll) #[] #[]] 79 #[.nilFunc] 103
 obtain ⟨gv, hgv⟩ : ∃ g, gy + 1 = g := ⟨_, rfl⟩
 rw [hgv] at kv
 obtain ⟨v0, v1, _⟩ := kv.one
 obtain ⟨V, hV⟩ : ∃ V, W1.setCell ⟨gv, 0, none⟩ (.func (.func 67) #[] #[.pointer (some ⟨gy, 0, none⟩), .pointer (some ⟨gv, 0, none⟩)]) = V := ⟨_, rfl⟩
 have kv9 : Blk V gv 103 #[.func (.func 67) #[] #[.pointer (some ⟨gy, 0, none⟩), .pointer (some ⟨gv, 0, none⟩)]] := by
  rw [← hV]
  have := kv.set_ 0 (.func (.func 67) #[] #[.pointer (some ⟨gy, 0, none⟩), .pointer (some ⟨gv, 0, none⟩)])
  simpa using this
 have ky9 : Blk V gy 79 #[.func (.yield ll) #[] #[]] := by rw [← hV]; exact ky.far (p := ⟨gv, 0, none⟩) (by show gy ≠ gv; omega) _
 have hbV : Below W.heap.size W V := by rw [← hV]; exact hal.setCell (p := ⟨gv, 0, none⟩) (by show W.heap.size ≤ gv; omega) _
 have hFPV : stFP gq t nv A n c S V := ⟨hFP.1.ext hbV, hFP.2⟩
 obtain ⟨q0, q1, q2, q3, _⟩ := hFPV.1.fourV
 obtain ⟨u0, u1, _⟩ := kv9.one
 have hvis := visit_leaf gy gv t ht nv A n c ll J Jx S V W.heap.size hbV.size ky9 (fun h => by have := hS _ h; omega) (fun b hb => Nat.lt_of_lt_of_le (hS b hb) hbV.size) hJ hJx
  (fun k hk S1 W2 hj hsz => by
   have h := hY k (by rw [List.length_map]; exact hk) S1 W2 hj hsz
   rw [List.getElem_map] at h
   exact h) (hJ _ _ _ _ h0 (Kept.of_below hbV))
 have Hvis := Lib.hid hvis; have HV := Lib.hid hV; have HW1 := Lib.hid hW1
 clear hvis ky kv kv9 ky9 hFPV hY hJ hJx hS h0 hFP hs1 hal hbV
 gi_wp2_with fail
 refine Hvis.out.mono ?_
 rintro e w5 hv5
 obtain ⟨tt, rfl⟩ : ∃ tt, e = .returned (.bool tt) := hv5.elim (fun h => ⟨_, h.1⟩) (fun h => ⟨_, h.1⟩)
 have hres : ((∃ S', J (List.map Sm.stem (splitS t)).length S' w5) ∨ ∃ k S', Jx k S' w5) := by
  rw [List.length_map]
  exact hv5.elim (fun h => .inl h.2) fun h => .inr h.2
 clear hv5
 gi_wp2
 exact bodyPost_end (results_none rfl _ _ _) rfl ⟨⟨_, rfl⟩, hres⟩
end Go.Proofs.YtnlhocbaighedaaGreatDoor
namespace Go.Proofs.YtnlhocbaighedaaGreatDoor
open Go.RowKit Go.Sort Go.Lib
set_option linter.unusedVariables false
namespace Rk
/-- the stems sorted, each once -/
def sortF (l : List Str) : List Str := l.mergeSort fun x y => decide (x ≤ y)
def countF (l : List Str) : List Str := Lib.compact (sortF l)
theorem sort_len (l : List Str) : (sortF l).length = l.length := List.length_mergeSort _
theorem sort_mem {l : List Str} {x : Str} : x ∈ sortF l ↔ x ∈ l := List.mem_mergeSort
theorem compact_mem {l : List Str} {x : Str} (h : x ∈ Lib.compact l) : x ∈ l := by
 unfold Lib.compact Lib.compactUpTo at h
 obtain ⟨j, hj, rfl⟩ := List.mem_map.1 h
 have hj2 : j < l.length := List.mem_range.1 (List.mem_filter.1 hj).1
 simp [hj2]
theorem compact_len (l : List Str) : (Lib.compact l).length ≤ l.length := by
 unfold Lib.compact Lib.compactUpTo
 rw [List.length_map]
 exact Nat.le_trans (List.length_filter_le _ _) (by simp)
theorem count_one (s : Str) : countF [s] = [s] := by
 unfold countF sortF
 rw [List.mergeSort_singleton]
 exact compact_all [s] (keeps_lt_one _)
end Rk
theorem strs_of_els {M : Nat → Prop} {w : World} {xs : List Value} {l : List Str} (h : Els strC M w xs l) : xs = l.map encStr := by
 have hn : strC.n = 1 := rfl
 have hl := h.1
 rw [hn, Nat.mul_one] at hl
 refine List.ext_getElem (by simpa using hl) fun i h1 h2 => ?_
 have hi : i < l.length := by omega
 have h3 := (h.2 i hi).1
 rw [hn, Nat.mul_one] at h3
 have h4 : ((xs.drop i).take 1)[0]? = some (encStr l[i]) := by rw [h3]; rfl
 rw [List.getElem?_take, if_pos (by omega), List.getElem?_drop, List.getElem?_eq_getElem (by omega)] at h4
 simpa using h4
theorem strs_max {M : Nat → Prop} {w : World} {xs : List Value} {l : List Str} (h : Els strC M w xs l) : ∀ x ∈ l, x.length ≤ maxLen := fun x hx => by
 obtain ⟨i, hi, rfl⟩ := List.mem_iff_getElem.1 hx
 exact (h.2 i hi).2
theorem els_strs (M : Nat → Prop) (w : World) : ∀ (l : List Str), (∀ x ∈ l, x.length ≤ maxLen) → Els strC M w (l.map encStr) l
 | [], _ => Els.nil _ _ _
 | x :: l, h => (Els.single (C := strC) (cs := [encStr x]) ⟨rfl, h x List.mem_cons_self⟩).append (els_strs M w l fun y hy => h y (List.mem_cons_of_mem _ hy))
theorem sortS_ok (L : List Str) (v : Value) (w : World) (B : Nat) (h : Own strC M0 w B 9 v L) (hn : L.length ≤ 2000000) :
  Calls Tryz.prog 65 #[v] w fun e w' => e = .returned (.tuple #[]) ∧ Own strC M0 w' B 9 v (Rk.sortF L) ∧ w.grownBy w' v.ownBlock := by
 obtain ⟨xs, ho, he⟩ := h
 have hxs := strs_of_els he
 have hmx := strs_max he
 subst hxs
 rcases ho.2 with ⟨rfl, h1⟩ | ⟨g, cap, cur, rfl, hBg, hblk, hc1, hc2, hsz, htk⟩
 ·have hL : L = [] := List.eq_nil_of_length_eq_zero h1
  subst hL
  refine (Tryz.slices_Sort_string_none none 0 w).mono ?_
  rintro e w' ⟨rfl, rfl⟩
  exact ⟨rfl, by rw [show Rk.sortF [] = [] from List.mergeSort_nil]; exact Own.nil _ _ _ _ _, ⟨rfl, rfl, rfl, Nat.le_refl _, fun _ _ _ => rfl⟩⟩
 ·have hn1 : strC.n = 1 := rfl
  rw [hn1, Nat.mul_one] at htk
  rw [hn1] at hsz
  refine (Tryz.slices_Sort_string g 0 cap L w (holds_of_block hblk htk) (Array.getElem?_eq_some_iff.1 hblk).1 (by omega)).mono ?_
  rintro e w' ⟨rfl, n, os, rfl⟩
  have hlen : (Rk.sortF L).length = L.length := Rk.sort_len L
  refine ⟨rfl, ⟨(Rk.sortF L).map encStr, ?_, els_strs _ _ _ fun x hx => hmx x (Rk.sort_mem.1 hx)⟩, grownBy_sorted _⟩
  rw [hlen]
  exact ownsRow_sorted hlen hBg hblk hc1 hc2 hsz
theorem compactS_ok (L : List Str) (v : Value) (w : World) (B : Nat) (h : Own strC M0 w B 9 v L) (hn : L.length ≤ 2000000) :
  Calls Tryz.prog 48 #[v] w fun e w' => ∃ u, e = .returned u ∧ Own strC M0 w' B 9 u (Lib.compact L) ∧ w.grownBy w' v.ownBlock := by
 obtain ⟨xs, ho, he⟩ := h
 have hxs := strs_of_els he
 have hmx := strs_max he
 subst hxs
 rcases ho.2 with ⟨rfl, h1⟩ | ⟨g, cap, cur, rfl, hBg, hblk, hc1, hc2, hsz, htk⟩
 ·have hL : L = [] := List.eq_nil_of_length_eq_zero h1
  subst hL
  refine (Tryz.slices_Compact_string_empty none 0 w).mono ?_
  rintro e w' ⟨rfl, rfl⟩
  exact ⟨_, rfl, Own.nil _ _ _ _ _, ⟨rfl, rfl, rfl, Nat.le_refl _, fun _ _ _ => rfl⟩⟩
 ·have hn1 : strC.n = 1 := rfl
  have htk1 := htk
  rw [hn1, Nat.mul_one] at htk1
  refine (Tryz.slices_Compact_string g 0 cap L w (holds_of_block hblk htk1) (by omega) hc1).mono ?_
  rintro e w' ⟨rfl, q, rfl⟩
  have hcl := Rk.compact_len L
  obtain ⟨ys, hys⟩ : ∃ ys, Lib.compact L ++ List.replicate (L.length - (Lib.compact L).length) [] = ys := ⟨_, rfl⟩
  have hyl : ys.length = L.length := by rw [← hys]; simp; omega
  have hyt : ys.take (Lib.compact L).length = Lib.compact L := by rw [← hys]; simp
  have hr := ownsRow_putRow (enc := encStr) (q := q) (ys := ys) (k := (Lib.compact L).length) ho hyl hcl
  rw [hyt] at hr
  refine ⟨_, rfl, ⟨(Lib.compact L).map encStr, ?_, els_strs _ _ _ fun x hx => hmx x (Rk.compact_mem hx)⟩, ?_⟩
  ·rw [hys]; exact hr
  ·have := grownBy_sorted (w := w) (g := g) (n := q) (os := #[]) (Lib.compact L ++ List.replicate (L.length - (Lib.compact L).length) []).toArray
   rw [grow_empty] at this
   exact this
end Go.Proofs.YtnlhocbaighedaaGreatDoor
namespace Go.Proofs.YtnlhocbaighedaaGreatDoor
open Go.RowKit

/-- A text with a space: cut at its first one. -/
theorem cut_first : ∀ s : Str, 32 ∈ s → ∃ q r, s = q ++ 32 :: r ∧ 32 ∉ q
 | [], h => by cases h
 | c :: t, h => by
  by_cases hc : c = 32
  ·exact ⟨[], t, by rw [hc]; rfl, by simp⟩
  ·rcases List.mem_cons.1 h with h | h
   ·exact absurd h.symm hc
   ·obtain ⟨q, r, rfl, hq⟩ := cut_first t h
    exact ⟨c :: q, r, rfl, by simp only [List.mem_cons, not_or]; exact ⟨fun e => hc e.symm, hq⟩⟩
theorem index_slash : ∀ (q r : Str), 32 ∉ q → Lib.indexByte (q ++ 32 :: r) 32 = (q.length : Int)
 | [], r, _ => by simp [Lib.indexByte]
 | c :: q, r, h => by
  simp only [List.mem_cons, not_or] at h
  have ih := index_slash q r h.2
  rw [List.cons_append, Lib.indexByte, ih]
  have h1 : (c == (32 : UInt8)) = false := by simpa using fun e : c = 32 => h.1 e.symm
  have h2 : ((q.length : Int) == -1) = false := by simp
  rw [h1, h2]; simp
theorem count_cut (q r : Str) (h : 32 ∉ q) : (q ++ 32 :: r).count 32 = r.count 32 + 1 := by
 rw [List.count_append, List.count_eq_zero_of_not_mem h, List.count_cons_self]; omega
theorem set_midS {α : Type} (p rest : List α) (a b : α) (k : Nat) (h : p.length = k) : (p ++ a :: rest).set k b = p ++ b :: rest := by
 subst h
 induction p with
 | nil => rfl
 | cons c p ih => rw [List.cons_append, List.length_cons, List.set_cons_succ, ih, List.cons_append]
set_option maxRecDepth 100000 in
theorem countB_ok (s : Str) (w : World) : Calls Tryz.prog 146 #[.string (bs s), .string ⟨#[32]⟩] w fun e w' => e = .returned (.int .i64 (s.count 32 : Nat)) ∧ w = w' := by
 go_enter Tryz.func146, Tryz.ntmps146
 go_wp2
 rw [run_callFunc_extern Tryz.func169 (by kernel_rfl) (by kernel_rfl) (by kernel_rfl) (e := Extern.BytealgCount.count) (by kernel_rfl), Lib.run_countString]
 simp only [Result.andThen]
 rw [Oper.upon_value]
 go_wp2
 go_ret
 exact ⟨by simp only [Lib.countByte]; rfl, rfl⟩
set_option maxRecDepth 100000 in
theorem indexByteB_ok (s : Str) (w : World) : Calls Tryz.prog 163 #[.string (bs s), .int .u8 32] w fun e w' => e = .returned (.int .i64 (Lib.indexByte s 32)) ∧ w = w' := by
 go_enter Tryz.func163, Tryz.ntmps163
 go_wp2
 rw [run_callFunc_extern Tryz.func179 (by kernel_rfl) (by kernel_rfl) (by kernel_rfl) (e := Extern.BytealgIndexByte.indexByte) (by kernel_rfl), Lib.run_indexByteString]
 simp only [Result.andThen]
 rw [Oper.upon_value]
 go_wp2
 go_ret
 exact ⟨by simp, rfl⟩
set_option maxRecDepth 100000 in
theorem index1_ok (s : Str) (w : World) : Calls Tryz.prog 160 #[.string (bs s), .string ⟨#[32]⟩] w fun e w' => e = .returned (.int .i64 (Lib.indexByte s 32)) ∧ w = w' := by
 have hb := indexByteB_ok s w
 obtain ⟨n, hn⟩ : ∃ n, Lib.indexByte s 32 = n := ⟨_, rfl⟩
 rw [hn] at hb ⊢
 cases hs : (([32] : List UInt8) == s) with
 | true =>
  have h0 : n = 0 := by
   have : s = [32] := by simpa using (beq_iff_eq.1 hs).symm
   rw [← hn, this]; rfl
  subst h0
  clear hn
  go_enter Tryz.func160, Tryz.ntmps160
  go_wp2_with fail
  go_ret
  exact ⟨rfl, rfl⟩
 | false =>
  clear hn
  go_enter Tryz.func160, Tryz.ntmps160
  go_wp2_with fail
  refine hb.mono ?_
  rintro e w' ⟨rfl, rfl⟩
  go_wp2
  go_ret
  exact ⟨rfl, rfl⟩
theorem index_ok (s : Str) (w : World) : Calls Tryz.prog 134 #[.string (bs s), .string ⟨#[32]⟩] w fun e w' => e = .returned (.int .i64 (Lib.indexByte s 32)) ∧ w = w' := by
 have hb := index1_ok s w
 generalize Lib.indexByte s 32 = n at hb ⊢
 go_enter Tryz.func134, Tryz.ntmps134
 go_wp2_with fail
 refine hb.mono ?_
 rintro e w' ⟨rfl, rfl⟩
 go_wp2
 go_ret
 exact ⟨rfl, rfl⟩

set_option maxRecDepth 100000 in
set_option maxHeartbeats 4000000 in
theorem genSplit_ok (M : Nat → Prop) (s : Str) (w : World) (hs : s.length ≤ 4000000) (_hM : ∀ b, M b → b < w.heap.size) : Calls Tryz.prog 105 #[.string (bs s), .string ⟨#[32]⟩, .int .i64 0, .int .i64 (-1)] w fun e w' =>
  ∃ v', e = .returned v' ∧ Own strC M w' w.heap.size 9 v' (splitS s) ∧ Below w.heap.size w w' := by
 obtain ⟨cn, hcn⟩ : ∃ cn, s.count 32 = cn := ⟨_, rfl⟩
 have hcl : cn ≤ s.length := hcn ▸ List.count_le_length
 have hcnt := countB_ok s w
 rw [hcn] at hcnt
 obtain ⟨i, hi, hz, h1, h2⟩ := info_parts (by kernel_rfl : (Tryz.prog.info? 9).map (fun i => (i.zero, i.size, i.bytes)) = some (some (.string ⟨#[]⟩), 1, 16))
 obtain ⟨w1, hmk, hown, hgr⟩ := run_makeSlice_full (P := Tryz.prog) (w := w) w.heap.size 53 9 i (.string ⟨#[]⟩) 1 Tryz.underlying53 hi hz h1 .i64 .i64 (cn + 1) (by omega) (by rw [h2]; omega) (by unfold maxLen; omega) (Nat.le_refl _)
 have Hcn := Lib.hid hcn; have Hown := Lib.hid hown
 have hcast : ((cn + 1 : Nat) : Int) = (cn : Int) + 1 := by omega
 rw [hcast] at hmk
 clear hcn hown hcast
 have hj : min (cn : Int) (s.length : Int) = cn := by omega
 go_enter Tryz.func105, Tryz.ntmps105
 go_wp2_with fail
 refine hcnt.mono ?_
 rintro e w' ⟨rfl, rfl⟩
 go_wp2_with fail
 clear hmk hcnt
 have hB0 : Own strC M w1 w.heap.size 9 (.slice (some ⟨w.heap.size, 0, none⟩) (cn + 1) (cn + 1)) (List.replicate (cn + 1) []) := by
  refine ⟨List.replicate (cn + 1) (.string ⟨#[]⟩), ?_, by simp [strC], fun j hj => ?_⟩
  ·have := Hown.out
   rw [Nat.mul_one] at this
   rw [show madeCells (Value.string ⟨#[]⟩).cells (cn + 1) = madeCells #[.string ⟨#[]⟩] (cn + 1) from rfl, toList_madeCells_one] at this
   rw [List.length_replicate]
   exact this
  ·have hj' : j < cn + 1 := by simpa using hj
   rw [List.getElem_replicate, List.drop_replicate, List.take_replicate]
   have : min strC.n (cn + 1 - j * strC.n) = 1 := by show min 1 (cn + 1 - j * 1) = 1; omega
   rw [this]
   exact ⟨rfl, Nat.zero_le _⟩
 have hb1 : Below w.heap.size w w1 := (Below.refl _ _).grown hgr (Nat.le_refl _) (fun b h => by cases h)
 have HB0 := Lib.hid hB0; have Hb1 := Lib.hid hb1
 clear hB0 hgr hi hz h1 h2 hj Hown
 go_loopw [0, 10] (fun sv ii wr => ∃ (k : Nat) (p : List Str) (r : Str), k ≤ cn ∧ ii = .int .i64 k ∧ sv = .string (bs r) ∧ Hid (p.length = k ∧ splitS s = p ++ splitS r ∧ r.count 32 = cn - k ∧ r.length ≤ s.length) ∧ Own strC M wr w.heap.size 9 (.slice (some ⟨w.heap.size, 0, none⟩) (cn + 1) (cn + 1)) (p ++ List.replicate (cn + 1 - k) []) ∧ Below w.heap.size w wr) (fun _ ii _ => cn - (intOf ii).toNat)
 case atStart => exact ⟨0, [], s, Nat.zero_le _, rfl, rfl, Lib.hid ⟨rfl, rfl, by rw [Hcn.out]; rfl, Nat.le_refl _⟩, by simpa using HB0.out, Hb1.out⟩
 case round =>
  obtain ⟨k, p, r, hk, rfl, rfl, hp, hown, hb⟩ := hrel
  have hrl : r.length ≤ 4000000 := Nat.le_trans hp.out.2.2.2 hs
  have hoL : 0 < (p ++ List.replicate (cn + 1 - k) ([] : Str)).length := by simp; omega
  obtain ⟨g, c9, cur, hv, _, _, _, hblk, hsz⟩ := hown.blk hoL
  injection hv with hv1 hv2 hv3
  injection hv1 with hv1
  injection hv1 with hv1
  subst hv1 hv3
  have hsz1 : cur.size = cn + 1 := by rw [hsz]; show (cn + 1) * 1 = cn + 1; omega
  have hc0 := hblk.cell k
  obtain ⟨u0, hu0⟩ : ∃ u, cur[k]? = some u := ⟨_, Array.getElem?_eq_getElem (by omega)⟩
  rw [hu0] at hc0
  clear hu0 hsz1 hsz
  have hf0 := hblk.frozen k
  have hgl := hblk.lt
  by_cases hlt : k < cn
  ·have hmem : 32 ∈ r := by
    have := hp.out.2.2.1
    exact List.count_pos_iff.1 (by omega)
   obtain ⟨q, t, hr, hq⟩ := cut_first r hmem
   have hix := index_ok r wr
   rw [hr, index_slash q t hq, ← hr] at hix
   have hql : q.length + 1 ≤ r.length := by rw [hr]; simp
   have hi1 : (k : Int) < (cn : Int) + 1 := by omega
   have Hr := Lib.hid hr
   clear hr hmem hv2
   have Hhp := Lib.hid hown
   go_wp2_with fail
   refine hix.mono ?_
   rintro e w' ⟨rfl, rfl⟩
   go_wp2_with fail
   go_roundw
   case rel =>
    obtain ⟨p1, p2, p3, p4⟩ := hp.out
    have hr := Hr.out
    have e1 : List.take (r.length - (q.length + 1)) (List.drop (q.length + 1) r) = t := by
     rw [List.take_of_length_le (by rw [List.length_drop]; omega), hr, show q ++ 32 :: t = (q ++ [32]) ++ t by simp, List.drop_left' (by simp)]
    have e2 : List.take q.length r = q := by rw [hr, List.take_left]
    have htl : t.length ≤ r.length := by rw [hr]; simp; omega
    rw [e1, e2]
    have hset := hown.put1 rfl (k := k) (by rw [List.length_append, List.length_replicate]; omega) (u := .string (bs q)) (a := q) ⟨rfl, by unfold maxLen; omega⟩
    have e3 : (p ++ List.replicate (cn + 1 - k) ([] : Str)).set k q = (p ++ [q]) ++ List.replicate (cn + 1 - (k + 1)) [] := by
     rw [show cn + 1 - k = (cn + 1 - (k + 1)) + 1 by omega, List.replicate_succ, set_midS _ _ _ _ _ p1]
     simp
    rw [e3] at hset
    exact ⟨k + 1, p ++ [q], t, by omega, by go_num, rfl, Lib.hid ⟨by simp [p1], by rw [p2, hr, splitS_cut q t hq]; simp, by rw [hr, count_cut q t hq] at p3; omega, by omega⟩, hset, hb.setCell (p := ⟨w.heap.size, k, none⟩) (Nat.le_refl _) _⟩
   case measure => simp [intOf]; omega
  ·obtain rfl : k = cn := by omega
   obtain ⟨p1, p2, p3, p4⟩ := hp.out
   have hno : 32 ∉ r := by
    intro h
    have := List.count_pos_iff.2 h
    omega
   have hset := hown.put1 rfl (k := k) (by rw [List.length_append, List.length_replicate]; omega) (u := .string (bs r)) (a := r) ⟨rfl, by unfold maxLen; omega⟩
   have e3 : (p ++ List.replicate (k + 1 - k) ([] : Str)).set k r = splitS s := by
    rw [show k + 1 - k = 0 + 1 by omega, List.replicate_succ, set_midS _ _ _ _ _ p1, p2, splitS_no r hno]
    rfl
   rw [e3] at hset
   have Hset := Lib.hid hset
   have hi1 : (k : Int) < (k : Int) + 1 := by omega
   clear hset e3 p1 p2 p3 p4 hno hv2
   go_wp2
   go_ret
   exact ⟨_, rfl, Hset.out, hb.setCell (p := ⟨w.heap.size, k, none⟩) (Nat.le_refl _) _⟩

set_option maxRecDepth 100000 in
theorem split_ok (M : Nat → Prop) (s : Str) (w : World) (hs : s.length ≤ 4000000) (hM : ∀ b, M b → b < w.heap.size) : Calls Tryz.prog 79 #[.string (bs s), .string ⟨#[32]⟩] w fun e w' =>
  ∃ v', e = .returned v' ∧ Own strC M w' w.heap.size 9 v' (splitS s) ∧ Below w.heap.size w w' := by
 have h := genSplit_ok M s w hs hM
 have H := Lib.hid h
 clear h
 go_enter Tryz.func79, Tryz.ntmps79
 go_wp2_with fail
 refine H.out.mono ?_
 rintro e w' ⟨v, rfl, h1, h2⟩
 obtain ⟨A, c, rfl, _, _⟩ := h1.shape
 go_wp2
 go_ret
 exact ⟨_, rfl, h1, h2⟩
end Go.Proofs.YtnlhocbaighedaaGreatDoor

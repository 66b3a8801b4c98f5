/-
  Contracts and plain facts, one after another: index.Add: the state in which places are added; index.Of: the postings of a term; query.measure: the levels and the nodes of a query; query.shapes, query.node: what each kind permits; the code of a node's error; The reference: Ints, SamePostings, SameIndex.
-/
import Derived.Test.YtiohhajkegpebaaGreatDoorR12
import Derived.Test.YtiohhajkegpebaaGreatDoorR10
import Derived.Test.YtiohhajkegpebaaGreatDoorR8
import Derived.Test.YtiohhajkegpebaaGreatDoorR1
import Derived.Deep.QuietTactic
import Derived.BigQuiet
import Derived.Outline
import Derived.Laws.EntriesVeiled
import Derived.Laws.Tables
import Derived.Deep.WholeRow
import Derived.Great.BuildSlice
import Derived.Deep.CutBlock
import Derived.Deep.DeepCutAuto
namespace Go.Proofs.YtiohhajkegpebaaGreatDoor
open Go.RowKit
set_option linter.unusedVariables false
/-- what lies in new blocks alone -/
def Old (n : Nat) : Nat → Prop := fun b => b < n
theorem PostsAt.readB {T : Tids} {o : Nat → Owner} {w : World} {B : Nat} {wd : Str} {v : Value} {ps : List RPost} (h : PostsAt T o w B wd v ps) : SlR postC (Old B) w v (ps.map pp) :=
  SlR.unraw (by simp) ((h.row.flatC (M' := Old B) flatC_rp fun _ _ => rfl).readB fun _ h => h) fun i h1 h2 => by
    have hi : i < ps.length := by simpa using h1
    simp only [List.getElem_map]
    exact ⟨rfl, ((h.pl _ (List.getElem_mem hi)).1.flatC (M' := Old B) flatC_int fun _ _ => rfl).readB fun _ h => h⟩
theorem SlR.weak {α : Type} {C : Codec α} {M : Nat → Prop} {w : World} {v : Value} {l : List α} (h : SlR C M w v l) : SlR C M0 w v l := h.sub fun _ _ h => h.elim
theorem SlR.older {α : Type} {C : Codec α} {w : World} {v : Value} {l : List α} {n m : Nat} (h : SlR C (Old n) w v l) (hm : m ≤ n) : SlR C (Old m) w v l := h.sub fun b _ hb => Nat.lt_of_lt_of_le (show b < m from hb) hm
theorem TreeAt.readB {T : Tids} {o : Nat → Owner} {w : World} {B : Nat} {v : Value} {X : List RTerm} (h : TreeAt T o w B v X) : SlR termC (Old B) w v (X.map pt) :=
  SlR.unraw (by simp) ((h.row.flatC (M' := Old B) flatC_rt fun _ _ => rfl).readB fun _ h => h) fun i h1 h2 => by
    have hi : i < X.length := by simpa using h1
    simp only [List.getElem_map]
    exact ⟨rfl, (h.posts _ (List.getElem_mem hi)).readB⟩
/-- the two results, an index under way, the words -/
structure AddSt (w0 : World) (o : Nat → Owner) (g3 g6 g7 : Nat) (a tv lv : Value) (ids : List Int) (X : List RTerm) (L : List Str) (W : World) : Prop where
  tree : TreeAt ixT o W w0.heap.size tv X
  k3 : Blk W g3 32 #[a, tv]
  k6 : Blk W g6 32 #[.slice none 0 0, .slice none 0 0]
  k7 : Blk W g7 27 #[.int .i64 0, .int .i64 0]
  ints : Own intC M0 W w0.heap.size 3 a ids
  intno : ∀ g, a.ownBlock = some g → o g = .no ∧ g ≠ g3 ∧ g ≠ g6 ∧ g ≠ g7
  list : Own strC M0 W w0.heap.size 9 lv L
  listno : ∀ g, lv.ownBlock = some g → o g = .no ∧ g ≠ g3
  n3 : o g3 = .no
  n6 : o g6 = .no ∧ g6 ≠ g3
  n7 : o g7 = .no ∧ g7 ≠ g3
  low : ∀ b, b < w0.heap.size → o b = .no
  base : w0.heap.size ≤ g3
  below : Below w0.heap.size w0 W
variable {w0 : World} {o : Nat → Owner} {g3 g6 g7 : Nat} {a tv lv : Value} {ids : List Int} {X : List RTerm} {L : List Str} {W : World}
theorem AddSt.step (h : AddSt w0 o g3 g6 g7 a tv lv ids X L W) {o' : Nat → Owner} {W' : World} {tv' : Value} {X' : List RTerm} (hT : TreeAt ixT o' W' w0.heap.size tv' X') (k3 : Blk W' g3 32 #[a, tv']) (ht : Turn o g3 W W') (ho : ∀ b, b < W.heap.size → o' b = o b) : AddSt w0 o' g3 g6 g7 a tv' lv ids X' L W' := by
  have hs := h.below.size
  refine ⟨hT, k3, h.k6.keep (ht.block g6 h.k6.lt h.n6.1 h.n6.2), h.k7.keep (ht.block g7 h.k7.lt h.n7.1 h.n7.2), h.ints.flatC flatC_int fun b hb => ?_, fun g hg => ?_, h.list.flatC flatC_str fun b hb => ?_, fun g hg => ?_, ?_, ?_, ?_, fun b hb => ?_, h.base, ?_⟩
  · exact ht.block b (h.ints.lt b hb) (h.intno b hb).1 (h.intno b hb).2.1
  · rw [ho g (h.ints.lt g hg)]; exact h.intno g hg
  · exact ht.block b (h.list.lt b hb) (h.listno b hb).1 (h.listno b hb).2
  · rw [ho g (h.list.lt g hg)]; exact h.listno g hg
  · rw [ho g3 h.k3.lt]; exact h.n3
  · rw [ho g6 h.k6.lt]; exact h.n6
  · rw [ho g7 h.k7.lt]; exact h.n7
  · rw [ho b (by omega)]; exact h.low b hb
  · exact ⟨ht.os.trans h.below.os, ht.tape.trans h.below.tape, ht.output.trans h.below.output, Nat.le_trans hs ht.size, fun b hb => (ht.block b (by omega) (h.low b hb) (by have := h.base; omega)).trans (h.below.block b hb)⟩
/-- behind the two stores of the copy -/
theorem AddSt.start {w5 w6 : World} {g6 g7 : Nat} {a0 b0 a tv : Value} (hal5 : Below w0.heap.size w0 w5) (hb6 : Below w5.heap.size w5 w6) (k3 : Blk w5 g3 32 #[a0, b0]) (k6 : Blk w5 g6 32 #[.slice none 0 0, .slice none 0 0]) (k7 : Blk w5 g7 27 #[.int .i64 0, .int .i64 0])
    (hl : Own strC M0 w5 w0.heap.size 9 lv L) (hln : ∀ g, lv.ownBlock = some g → g ≠ g3) (ha : Own intC M0 w6 w5.heap.size 3 a ids) (hano : ∀ g, a.ownBlock = some g → o g = .no) (hT : TreeAt ixT o w6 w5.heap.size tv X) (hlo : ∀ g, g < w5.heap.size → o g = .no) (h36 : g6 ≠ g3) (h37 : g7 ≠ g3) (hB : w0.heap.size ≤ g3)
    (hW : (w6.setCell ⟨g3, 0, none⟩ a).setCell ⟨g3, 1, none⟩ tv = W) : AddSt w0 o g3 g6 g7 a tv lv ids X L W := by
  have hs := hal5.size
  have two : ∀ b, b ≠ g3 → W.heap[b]? = w6.heap[b]? := fun b hb => by rw [← hW, heap_set_ne _ _ _ hb, heap_set_ne _ _ _ hb]
  have h3 := k3.lt
  refine ⟨(hT.lower hs).move (fun b _ _ hb => two b fun e => hb (by rw [e]; exact hlo g3 h3)) (fun _ _ => rfl) (fun b hb => hT.fresh b (by rw [← hW] at hb; simpa using hb)), hW ▸ (((k3.ext hb6).set_ 0 a).set_ 1 tv), (k6.ext hb6).keep (two g6 h36), (k7.ext hb6).keep (two g7 h37), (ha.lower hs).flatC flatC_int fun b hb => two b fun e => (by have := ha.base b hb; omega), fun g hg => ⟨hano g hg, fun e => (by have := ha.base g hg; omega), fun e => (by have := ha.base g hg; have := k6.lt; omega), fun e => (by have := ha.base g hg; have := k7.lt; omega)⟩, (hl.ext hb6).flatC flatC_str fun b hb => two b (hln b hb), fun g hg => ⟨hlo g (hl.lt g hg), hln g hg⟩, hlo g3 h3, ⟨hlo g6 k6.lt, h36⟩, ⟨hlo g7 k7.lt, h37⟩, fun b hb => hlo b (by omega), hB, ?_⟩
  rw [← hW]
  exact ((hal5.trans (hb6.mono hs)).setCell (p := ⟨g3, 0, none⟩) hB _).setCell (p := ⟨g3, 1, none⟩) hB _
/-- behind the new number -/
theorem AddSt.insert (h : AddSt w0 o g3 g6 g7 a tv lv ids X L W) {V w7 W8 : World} {a' : Value} {ids' : List Int} (hV : Below W.heap.size W V) (hgr : V.grownBy w7 a.ownBlock) (hown : Own intC M0 w7 w0.heap.size 3 a' ids') (hor : a'.ownBlock = a.ownBlock ∨ a'.ownBlock = some V.heap.size) (hap : ∀ g, a.ownBlock = some g → g6 ≠ g ∧ g7 ≠ g ∧ ∀ b, lv.ownBlock = some b → b ≠ g) (hW : w7.setCell ⟨g3, 0, none⟩ a' = W8) : AddSt w0 o g3 g6 g7 a' tv lv ids' X L W8 := by
  have hs := h.below.size
  have hsV := hV.size
  have same : ∀ b, b < W.heap.size → b ≠ g3 → (∀ g, a.ownBlock = some g → b ≠ g) → W8.heap[b]? = W.heap[b]? := fun b hb h3 hg => by
    rw [← hW, heap_set_ne _ _ _ h3]
    exact (hgr.block b (by omega) fun e => hg b e.symm rfl).trans (hV.block b hb)
  have hsz : W.heap.size ≤ W8.heap.size := by have := hgr.size; rw [← hW]; simp; omega
  have hn : ∀ b, a'.ownBlock = some b → o b = .no ∧ b ≠ g3 ∧ b ≠ g6 ∧ b ≠ g7 := fun b hb => by
    rcases hor with e | e
    · rw [e] at hb; exact h.intno b hb
    · rw [e] at hb; injection hb with hb; exact ⟨h.tree.fresh b (by omega), by have := h.k3.lt; omega, by have := h.k6.lt; omega, by have := h.k7.lt; omega⟩
  refine ⟨h.tree.move (fun b hb _ hno => same b hb (fun e => hno (by rw [e]; exact h.n3)) fun g hg e => hno (by rw [e]; exact (h.intno g hg).1)) (fun _ _ => rfl) (fun b hb => h.tree.fresh b (by omega)), ?_, h.k6.keep (same g6 h.k6.lt h.n6.2 fun g hg => (hap g hg).1), h.k7.keep (same g7 h.k7.lt h.n7.2 fun g hg => (hap g hg).2.1), hown.flatC flatC_int fun b hb => ?_, hn, h.list.flatC flatC_str fun b hb => same b (h.list.lt b hb) (h.listno b hb).2 fun g hg => (hap g hg).2.2 b hb, h.listno, h.n3, h.n6, h.n7, h.low, h.base, ?_⟩
  · rw [← hW]
    have k : Blk w7 g3 32 #[a, tv] := h.k3.keep ((hgr.block g3 (by have := h.k3.lt; omega) fun e => (h.intno g3 e.symm).2.1 rfl).trans (hV.block g3 h.k3.lt))
    exact k.set_ 0 a'
  · rw [← hW]; exact heap_set_ne _ _ _ (hn b hb).2.1
  · refine ⟨?_, ?_, ?_, Nat.le_trans hs hsz, fun b hb => (same b (by omega) (by have := h.base; omega) fun g hg e => ?_).trans (h.below.block b hb)⟩
    · rw [← hW]; exact (hgr.os.trans hV.os).trans h.below.os
    · rw [← hW]; exact (hgr.tape.trans hV.tape).trans h.below.tape
    · rw [← hW]; exact (hgr.output.trans hV.output).trans h.below.output
    · have := h.ints.base g hg; omega
/-- the word under way -/
theorem AddSt.word (h : AddSt w0 o g3 g6 g7 a tv lv ids X L W) {k : Nat} (hk : k < L.length) : ∃ g c, lv = .slice (some ⟨g, 0, none⟩) L.length c ∧ L.length ≤ c ∧ c ≤ maxLen ∧ W.cell? ⟨g, k, none⟩ = some (.string (bs L[k])) ∧ L[k].length ≤ maxLen := by
  obtain ⟨g, c, cs, hv, h1, h2, _, _, hrd, hc, _⟩ := h.list.cellsAt hk
  obtain ⟨rfl, hl⟩ := hrd
  have := hc 0 _ rfl
  exact ⟨g, c, hv, h1, h2, by simpa [strC] using this, hl⟩
/-- behind the return's stores -/
theorem AddSt.fin (h : AddSt w0 o g3 g6 g7 a tv lv ids X L W) {w8 W9 : World} (hb : Below W.heap.size W w8) (hk : ∀ b, b ≠ g6 → b ≠ g7 → W9.heap[b]? = w8.heap[b]?) (hs : W9.heap.size = w8.heap.size) : SlR intC (Old w0.heap.size) W9 a ids ∧ SlR termC (Old w0.heap.size) W9 tv (X.map pt) :=
  ⟨(((h.ints.ext hb).flatC (M' := Old w0.heap.size) flatC_int fun b hb => hk b (h.intno b hb).2.2.1 (h.intno b hb).2.2.2) : Own intC (Old w0.heap.size) W9 _ _ _ _).readB fun _ h => h,
    ((h.tree.ext hb).move (w' := W9) (o' := o) (fun b _ _ hn => hk b (fun e => hn (by rw [e]; exact h.n6.1)) fun e => hn (by rw [e]; exact h.n7.1)) (fun _ _ => rfl) fun b hb' => h.tree.fresh b (by have := hb.size; omega)).readB⟩
end Go.Proofs.YtiohhajkegpebaaGreatDoor
namespace Go.Proofs.YtiohhajkegpebaaGreatDoor
open Go.RowKit
set_option linter.unusedVariables false
theorem look_at {K V : Type} [DecidableEq K] {lt : K → K → Bool} (ht : Al.Tot lt) {l : List (K × V)} {k : Nat} (hs : Al.Sorted lt l) (hk : k < l.length) : Al.look l l[k].1 = some l[k].2 :=
  Al.look_of_mem ht hs (show (l[k].1, l[k].2) ∈ l from List.getElem_mem hk)
theorem look_of_search {ts : List Ix.Term} {raw : List (Str × Value)} {x : Str} {k : Nat} {hit : Bool} (hl : raw.length = ts.length) (hi : ∀ (i : Nat) (h1 : i < raw.length) (h2 : i < ts.length), raw[i].1 = ts[i].1) (hs : Al.Sorted ltS ts) (h : SearchAt ltS raw x k hit) :
    (hit = true → ∃ h : k < ts.length, Al.look ts x = some ts[k].2) ∧ (hit = false → Al.look ts x = none) := by
  obtain ⟨h1, h2, h3, h4⟩ := h
  constructor
  · intro e
    rw [e] at h4
    by_cases hk : k < raw.length
    · rw [List.getElem?_eq_getElem hk] at h4
      have hk' : k < ts.length := by omega
      have e2 : raw[k].1 = x := by simpa using h4.symm
      refine ⟨hk', ?_⟩
      rw [← e2, hi k hk hk']
      exact look_at tot_str hs hk'
    · rw [List.getElem?_eq_none (by omega)] at h4
      cases h4
  · intro e
    rw [e] at h4
    refine Al.look_none fun q hq e2 => ?_
    obtain ⟨m, hm, rfl⟩ := List.mem_iff_getElem.1 hq
    have hm' : m < raw.length := by omega
    rw [← hi m hm' hm] at e2
    rcases Nat.lt_trichotomy m k with e3 | e3 | e3
    · exact tot_str.ne (h2 m hm' e3) e2
    · subst e3
      rw [List.getElem?_eq_getElem hm'] at h4
      simp only at h4
      rw [decide_eq_true e2] at h4
      cases h4
    · have h5 := h3 k (by omega) (Nat.le_refl _)
      have hp := List.pairwise_iff_getElem.1 hs k m (by omega) hm e3
      rw [← hi k (by omega) (by omega), ← hi m hm' hm, e2, h5] at hp
      cases hp
set_option maxRecDepth 20000 in
set_option maxHeartbeats 4000000 in
theorem indexOf_ok (a b : Value) (ts : List Ix.Term) (x : Str) (w : World) (h1 : SlR termC M0 w b ts) (hs : Al.Sorted ltS ts) (hln : ts.length ≤ 1000000) (hsm : ∀ t ∈ ts, t.2.length ≤ 1000000 ∧ ∀ p ∈ t.2, p.2.length ≤ 1000001) :
    Calls Tryz.prog 35 #[.agg #[a, b], .string (bs x)] w fun e w' => ∃ v, e = .returned v ∧ SlR postC (Old w.heap.size) w' v ((Al.look ts x).getD []) ∧ Below w.heap.size w w' := by
  obtain ⟨A1, c1, rfl, hlc, hcm⟩ := h1.form
  obtain ⟨raw, hrl, hraw, hri⟩ := h1.raw
  have hal := (Below.refl w.heap.size w).alloc (Nat.le_refl _) (.cells #[a, .slice A1 ts.length c1] 32)
  obtain ⟨g0, hg0⟩ : ∃ g, w.heap.size = g := ⟨_, rfl⟩
  obtain ⟨W, hW⟩ : ∃ W, w.alloc (.cells #[a, .slice A1 ts.length c1] 32) = W := ⟨_, rfl⟩
  have kb := Blk.new w 32 #[a, .slice A1 ts.length c1]
  obtain ⟨q0, q1, _, _, _⟩ := kb.two
  rw [hW] at hal kb
  rw [hg0] at kb
  have hsr : Al.Sorted ltS raw := by
    unfold Al.Sorted
    refine List.pairwise_iff_getElem.2 fun i j hi hj hij => ?_
    rw [(hri i hi (by omega)).1, (hri j hj (by omega)).1]
    exact List.pairwise_iff_getElem.1 hs i j (by omega) (by omega) hij
  have hf := find_ok a (.slice A1 ts.length c1) raw x W (hraw.ext hal) hsr (by omega)
  have hlk := fun k hit (h : SearchAt ltS raw x k hit) => look_of_search hrl (fun i h1 h2 => (hri i h1 h2).1) hs h
  have h1W := h1.ext hal
  have HW := Lib.hid (And.intro hW hg0); have Hf := Lib.hid hf; have Hlk := Lib.hid hlk; have Hsm := Lib.hid hsm
  clear hf hlk hri hraw hsr hs hsm hW hg0
  go_enter Tryz.func35, Tryz.ntmps35
  go_wp2_with fail
  rw [HW.out.1, HW.out.2]
  refine Hf.out.mono ?_
  rintro e w1 ⟨k, hit, rfl, hsa, hb1⟩
  have hl := Hlk.out k hit hsa
  clear hsa q0 q1 Hlk
  cases hit with
  | false =>
    have Hl := Lib.hid (hl.2 rfl)
    clear hl
    go_wp2
    go_ret
    refine ⟨_, rfl, ?_, below2 hal hb1⟩
    rw [Hl.out]
    exact SlR.nil _ _ _
  | true =>
    obtain ⟨hk, hl2⟩ := hl.1 rfl
    have Hl := Lib.hid hl2
    clear hl hl2
    obtain ⟨b, off, A2, c2, hA, _, _, p0, p1, _, hq⟩ := (h1W.ext hb1).termAt hk
    subst hA
    obtain ⟨_, q1, _⟩ := (kb.ext hb1).two
    have hk0 : (0 : Int) ≤ (k : Int) := by omega
    have hk1 : (k : Int) < (ts.length : Int) := by omega
    have hkw : IntKind.i64.wrap (k : Int) = (k : Int) := IntWalk.i64_in _ (by unfold maxLen at hcm; omega)
    have hmem := List.getElem_mem hk
    have hcp := copied_ok (fun _ => .no) [] (.slice A2 ts[k].2.length c2) ts[k].2 w1 hq (by have := (Hsm.out _ hmem).1; omega) (Hsm.out _ hmem).2 (fun _ _ => rfl)
    have Hcp := Lib.hid hcp
    clear hcp hq hmem
    go_wp2_with fail
    refine Hcp.out.mono ?_
    rintro e w2 ⟨v', o', ps, rfl, hps, hpp, _, _, hb2⟩
    have hb := below2 hal (hb1.trans (hb2.mono hb1.size))
    have hr := hps.readB.older (Nat.le_trans hal.size hb1.size)
    clear hb1 hb2
    rw [hpp] at hr
    clear hps hpp
    obtain ⟨A3, c3, rfl, _, _⟩ := hr.form
    go_wp2
    go_ret
    refine ⟨_, rfl, ?_, hb⟩
    rw [Hl.out]
    exact hr
end Go.Proofs.YtiohhajkegpebaaGreatDoor
namespace Go.Proofs.YtiohhajkegpebaaGreatDoor
open Go.RowKit
set_option linter.unusedVariables false
/-- what the reader may read: nothing that is made from B on -/
abbrev MF (B : Nat) : Nat → Prop := fun b => B ≤ b
theorem SlR.far {α : Type} {C : Codec α} {B : Nat} {w w' : World} {v : Value} {l : List α} (h : SlR C (MF B) w v l) (hb : Below B w w') : SlR C (MF B) w' v l :=
  h.keep (fun b _ hm => hb.block b (by omega)) hb.size
theorem QAt.far {f B : Nat} {w w' : World} {v : Value} {q : Q} (h : QAt f (MF B) w v q) (hb : Below B w w') : QAt f (MF B) w' v q := by
  obtain ⟨A, c, e, h1, h2, h3, hv⟩ := h
  exact ⟨A, c, e, h1, h2, h3, hv.far hb⟩
theorem QAt.toMF {f : Nat} {M : Nat → Prop} {w : World} {v : Value} {q : Q} (h : QAt f M w v q) : QAt f (MF w.heap.size) w v q := by
  obtain ⟨A, c, e, h1, h2, h3, hv⟩ := h
  exact ⟨A, c, e, h1, h2, h3, hv.sub fun b hb hm => by omega⟩
theorem QAt.lowMF {f B B' : Nat} {w : World} {v : Value} {q : Q} (h : QAt f (MF B) w v q) (hB : B ≤ B') : QAt f (MF B') w v q := by
  obtain ⟨A, c, e, h1, h2, h3, hv⟩ := h
  exact ⟨A, c, e, h1, h2, h3, hv.sub fun b hb hm => by omega⟩
theorem Blk.four {w : World} {g : Nat} {t : TypeId} {a b c d : Value} (h : Blk w g t #[a, b, c, d]) : w.cell? ⟨g, 0, none⟩ = some a ∧ w.cell? ⟨g, 1, none⟩ = some b ∧ w.cell? ⟨g, 2, none⟩ = some c ∧ w.cell? ⟨g, 3, none⟩ = some d ∧ g < w.heap.size :=
  ⟨h.cell 0, h.cell 1, h.cell 2, h.cell 3, h.lt⟩
theorem box4 (w : World) (c0 c1 c2 c3 : Array Value) (t0 t1 t2 t3 : TypeId) : ∃ W, ((((w.alloc (.cells c0 t0)).alloc (.cells c1 t1)).alloc (.cells c2 t2)).alloc (.cells c3 t3)) = W ∧ Blk W w.heap.size t0 c0 ∧ Blk W (w.heap.size + 1) t1 c1 ∧ Blk W (w.heap.size + 1 + 1) t2 c2 ∧ Blk W (w.heap.size + 1 + 1 + 1) t3 c3 ∧
    Below w.heap.size w W ∧ W.heap.size = w.heap.size + 1 + 1 + 1 + 1 := by
  have e1 : (w.alloc (.cells c0 t0)).heap.size = w.heap.size + 1 := World.size_alloc ..
  have e2 : ((w.alloc (.cells c0 t0)).alloc (.cells c1 t1)).heap.size = w.heap.size + 1 + 1 := by rw [World.size_alloc, e1]
  have e3 : (((w.alloc (.cells c0 t0)).alloc (.cells c1 t1)).alloc (.cells c2 t2)).heap.size = w.heap.size + 1 + 1 + 1 := by rw [World.size_alloc, e2]
  have k1 := Blk.new (w.alloc (.cells c0 t0)) t1 c1
  have k2 := Blk.new ((w.alloc (.cells c0 t0)).alloc (.cells c1 t1)) t2 c2
  have k3 := Blk.new (((w.alloc (.cells c0 t0)).alloc (.cells c1 t1)).alloc (.cells c2 t2)) t3 c3
  rw [e1] at k1
  rw [e2] at k2
  rw [e3] at k3
  exact ⟨_, rfl, (((Blk.new w t0 c0).alloc _).alloc _).alloc _, (k1.alloc _).alloc _, k2.alloc _, k3, ((((Below.refl _ w).alloc (Nat.le_refl _) _).alloc (by omega) _).alloc (by omega) _).alloc (by omega) _, by rw [World.size_alloc, e3]⟩
/-- the three boxes of measure -/
structure Boxes (w : World) (gL gN gV : Nat) (L N : Int) : Prop where
  l : Blk w gL 3 #[.int .i64 L]
  n : Blk w gN 3 #[.int .i64 N]
  v : Blk w gV 100 #[.func (.func 70) #[] #[.pointer (some ⟨gL, 0, none⟩), .pointer (some ⟨gN, 0, none⟩), .pointer (some ⟨gV, 0, none⟩)]]
theorem Boxes.ext {w w' : World} {gL gN gV : Nat} {L N : Int} (h : Boxes w gL gN gV L N) (hb : Below w.heap.size w w') : Boxes w' gL gN gV L N := ⟨h.l.ext hb, h.n.ext hb, h.v.ext hb⟩
theorem Boxes.put {w : World} {gL gN gV : Nat} {L N : Int} (h : Boxes w gL gN gV L N) (h1 : gL ≠ gN) (h2 : gL ≠ gV) (h3 : gN ≠ gV) (L' N' : Int) : Boxes ((w.setCell ⟨gL, 0, none⟩ (.int .i64 L')).setCell ⟨gN, 0, none⟩ (.int .i64 N')) gL gN gV L' N' := by
  refine ⟨?_, ?_, ?_⟩
  · have := (h.l.set_ 0 (.int .i64 L')).far (p := ⟨gN, 0, none⟩) h1 (.int .i64 N')
    simpa using this
  · have := (h.n.far (p := ⟨gL, 0, none⟩) h1.symm (.int .i64 L')).set_ 0 (.int .i64 N')
    simpa using this
  · exact (h.v.far (p := ⟨gL, 0, none⟩) h2.symm _).far (p := ⟨gN, 0, none⟩) h3.symm _
theorem top_snoc (l : List Nat) (a : Nat) : Q.top (l ++ [a]) = max (Q.top l) a := by
  induction l with
  | nil => simp [Q.top]
  | cons b l ih => rw [List.cons_append, Q.top, Q.top, ih]; omega
set_option maxRecDepth 100000 in
set_option maxHeartbeats 4000000 in
theorem visit_ok (B gL gN gV : Nat) (hBL : B ≤ gL) (hBN : B ≤ gN) (h1 : gL ≠ gN) (h2 : gL ≠ gV) (h3 : gN ≠ gV) : ∀ (e : Nat) (f : Nat) (q : Q) (v : Value) (w : World) (L N : Int), e ≤ 8 → QAt f (MF B) w v q → B ≤ w.heap.size → Boxes w gL gN gV L N → 0 ≤ L → L ≤ 9 → 0 ≤ N → N + q.bulk ≤ 4611686018427387904 →
    Calls Tryz.prog 70 #[v, .int .i64 (9 - e : Int), .pointer (some ⟨gL, 0, none⟩), .pointer (some ⟨gN, 0, none⟩), .pointer (some ⟨gV, 0, none⟩)] w fun r w' => r = .returned (.tuple #[]) ∧ Below B w w' ∧ Boxes w' gL gN gV (max L (8 - e + (Q.lev (e + 1) q : Nat) : Int)) (N + ((Q.pre (e + 1) q).length : Nat)) := by
    intro e
    induction e using Nat.strongRecOn with | _ e ih => ?_
    intro f q v w L N he hq hB hx hL hL9 hN hNb
    obtain ⟨A, c, rfl, _, _, _, hv⟩ := hq
    obtain ⟨k, t, n, ps⟩ := q
    simp only [Q.kind_node, Q.text_node, Q.num_node, Q.parts_node] at hv ⊢
    have hps := hv.len_le
    unfold maxLen at hps
    have hbk := Q.bulk_eq (.node k t n ps)
    simp only [Q.text_node, Q.parts_node] at hbk
    have hb0 := (Below.refl B w).alloc hB (.cells #[.int .i64 k, .string (bs t), .int .i64 n, .slice A ps.length c] 25)
    have kb := Blk.new w 25 #[.int .i64 k, .string (bs t), .int .i64 n, .slice A ps.length c]
    have hx0 := hx.ext ((Below.refl w.heap.size w).alloc (Nat.le_refl _) (.cells #[.int .i64 k, .string (bs t), .int .i64 n, .slice A ps.length c] 25))
    obtain ⟨p0, p1, p2, p3, _⟩ := kb.four
    obtain ⟨x0, x1, _⟩ := hx0.l.one
    obtain ⟨y0, y1, _⟩ := hx0.n.one
    have hgL : gL ≠ w.heap.size := fun h => by have := hx.l.lt; omega
    have hgN : gN ≠ w.heap.size := fun h => by have := hx.n.lt; omega
    go_enter Tryz.func70, Tryz.ntmps70
    go_wp2_with fail
    go_region
    obtain ⟨W, hW⟩ : ∃ W, ((((w.alloc (.cells #[.int .i64 k, .string (bs t), .int .i64 n, .slice A ps.length c] 25)).setCell ⟨gL, 0, none⟩ (.int .i64 (max L (9 - e)))).setCell ⟨gN, 0, none⟩ (.int .i64 (N + 1))).drew) = W := ⟨_, rfl⟩
    have hbW : Below B w W := by rw [← hW]; exact ((hb0.setCell (p := ⟨gL, 0, none⟩) hBL _).setCell (p := ⟨gN, 0, none⟩) hBN _).drew
    have hxW : Boxes W gL gN gV (max L (9 - e)) (N + 1) := by rw [← hW]; have hp := hx0.put h1 h2 h3 (max L (9 - e)) (N + 1); exact ⟨hp.l, hp.n, hp.v⟩
    have p3W : W.cell? ⟨w.heap.size, 3, none⟩ = some (.slice A ps.length c) := by
      rw [← hW]
      exact (((kb.far (p := ⟨gL, 0, none⟩) hgL.symm _).far (p := ⟨gN, 0, none⟩) hgN.symm _).four).2.2.2.1
    rw [hW]
    have hB' := Nat.le_trans hB hbW.size
    clear p0 p1 p2 p3 x0 x1 y0 y1 hgL hgN kb hb0 hx0 hW hx
    have hv0 := hv
    go_wp2_with fail
    go_loopw [17] (fun i wr => ∃ m : Nat, m ≤ ps.length ∧ i = .int .i64 m ∧ Below B w wr ∧ Boxes wr gL gN gV (max L (9 - e + (Q.top ((ps.take m).map (Q.lev e)) : Nat))) (N + 1 + (((ps.take m).flatMap (Q.pre e)).length : Nat))) (fun i _ => ps.length - (intOf i).toNat)
    case atStart => exact ⟨0, Nat.zero_le _, rfl, hbW, by simpa [Q.top] using hxW⟩
    case round =>
      obtain ⟨m, hm, rfl, hb, hx⟩ := hrel
      by_cases hlt : m < ps.length
      · have hvr := hv0.far hb
        obtain ⟨b, off, g, A2, c2, rfl, rfl, hMb, hbs, q0, q1, q2, q3, hqa⟩ := hvr.qAt hlt
        have hbm := Q.take_bulk hlt
        have hfl := Q.flat_bulk e (ps.take m)
        have htl := Q.top_lev_le e (ps.take m)
        have htk := List.take_succ_eq_append_getElem hlt
        obtain ⟨x, hxe⟩ : ∃ x, x = ps[m] := ⟨_, rfl⟩
        rw [← hxe] at q0 q1 q2 q3 hqa hbm htk
        clear hxe
        obtain ⟨z0, _, _⟩ := hx.v.one
        have Hqa := Lib.hid hqa; have Hbm := Lib.hid hbm; have Hfl := Lib.hid hfl; have Htl := Lib.hid htl; have Htk := Lib.hid htk
        clear hqa hbm hfl htl htk hvr
        have hal := (Below.refl wr.heap.size wr).alloc (Nat.le_refl _) (.cells #[.int .i64 x.kind, .string (bs x.text), .int .i64 x.num, .slice A2 x.parts.length c2] 25)
        have halB := hb.alloc (Nat.le_trans hB hb.size) (.cells #[.int .i64 x.kind, .string (bs x.text), .int .i64 x.num, .slice A2 x.parts.length c2] 25)
        by_cases h8 : 1 ≤ e
        · have hbm := Hbm.out; have hfl := Hfl.out; have htl := Htl.out
          have hcall := ih (e - 1) (by omega) g x _ _ _ _ (by omega) (Hqa.out.far ((Below.refl B wr).alloc (Nat.le_trans hB hb.size) _)) (Nat.le_trans hB halB.size) (hx.ext hal) (by omega) (by omega) (by omega) (by omega)
          clear hbm hfl htl
          have hlv : (9 - ((e - 1 : Nat) : Int)) = 9 - (e : Int) + 1 := by omega
          have hlw : (8 - ((e - 1 : Nat) : Int)) = 9 - (e : Int) := by omega
          have he1 : e - 1 + 1 = e := by omega
          rw [hlv, hlw, he1] at hcall
          have Hc := Lib.hid hcall
          clear hcall
          go_wp2_with fail
          refine Hc.out.mono ?_
          rintro r w2 ⟨rfl, hb2, hx2⟩
          go_wp2_with fail
          go_roundw
          case rel =>
            refine ⟨m + 1, by omega, by go_num, halB.trans hb2, ?_⟩
            rw [Htk.out, List.map_append, List.flatMap_append, List.map_singleton, top_snoc, List.flatMap_cons, List.flatMap_nil, List.append_nil, List.length_append]
            have e1 : max (max L (9 - (e : Int) + (Q.top ((ps.take m).map (Q.lev e)) : Nat))) (9 - (e : Int) + (Q.lev e x : Nat)) = max L (9 - (e : Int) + (max (Q.top ((ps.take m).map (Q.lev e))) (Q.lev e x) : Nat)) := by omega
            have e2 : N + 1 + (((ps.take m).flatMap (Q.pre e)).length : Nat) + ((Q.pre e x).length : Nat) = N + 1 + ((((ps.take m).flatMap (Q.pre e)).length + (Q.pre e x).length : Nat) : Int) := by omega
            rw [e1, e2] at hx2
            exact hx2
          case measure => simp [intOf]; omega
        · obtain rfl : e = 0 := by omega
          go_wp2_with fail
          go_roundw
          case rel =>
            refine ⟨m + 1, by omega, by go_num, halB, ?_⟩
            have h0 := Q.top_lev_le 0 (ps.take (m + 1))
            have h1 := Htl.out
            have z1 : Q.top ((ps.take (m + 1)).map (Q.lev 0)) = Q.top ((ps.take m).map (Q.lev 0)) := by omega
            have z2 : ∀ l : List Q, l.flatMap (Q.pre 0) = [] := fun l => by simp [Q.pre]
            rw [z1, z2]
            have hx9 := hx.ext hal
            rw [z2] at hx9
            exact hx9
          case measure => simp [intOf]; omega
      · obtain rfl : m = ps.length := by omega
        rw [List.take_length] at hx
        go_wp2_with fail
        refine bodyPost_end (results_none rfl _ _ _) rfl ⟨rfl, hb, ?_⟩
        have e1 : (9 - (e : Int) + (Q.top (ps.map (Q.lev e)) : Nat)) = (8 - (e : Int) + (Q.lev (e + 1) (.node k t n ps) : Nat)) := by rw [Q.lev]; simp only [Q.parts_node]; omega
        have e2 : N + 1 + ((ps.flatMap (Q.pre e)).length : Nat) = N + ((Q.pre (e + 1) (.node k t n ps)).length : Nat) := by rw [Q.pre, List.length_cons]; simp only [Q.parts_node]; omega
        rw [e1, e2] at hx
        exact hx
set_option maxRecDepth 100000 in
set_option maxHeartbeats 4000000 in
theorem measure_ok (f : Nat) (q : Q) (v : Value) (w : World) (hq : QAt f M0 w v q) (hN : q.bulk ≤ 4611686018427387904) :
    Calls Tryz.prog 47 #[v] w fun r w' => r = .returned (.tuple #[.int .i64 (Q.lev 9 q : Nat), .int .i64 ((Q.pre 9 q).length : Nat)]) ∧ Below w.heap.size w w' := by
  have hqM := hq.toMF
  obtain ⟨A, c, rfl, _, _, _, hv⟩ := hq
  obtain ⟨k, t, n, ps⟩ := q
  simp only [Q.kind_node, Q.text_node, Q.num_node, Q.parts_node] at hv hqM ⊢
  obtain ⟨V, hV, kq, kl, kn, kv, hbV, hsV⟩ := box4 w #[.int .i64 k, .string (bs t), .int .i64 n, .slice A ps.length c] #[.int .i64 0] #[.int .i64 0] #[.func (.func 70) #[] #[.pointer (some ⟨w.heap.size + 1, 0, none⟩), .pointer (some ⟨w.heap.size + 1 + 1, 0, none⟩), .pointer (some ⟨w.heap.size + 1 + 1 + 1, 0, none⟩)]] 25 3 3 100
  have hcall := visit_ok w.heap.size _ _ _ (by omega) (by omega) (by omega) (by omega) (by omega) 8 f (.node k t n ps) _ V 0 0 (by omega) (hqM.far hbV) hbV.size ⟨kl, kn, kv⟩ (by omega) (by omega) (by omega) (by omega)
  have Hc := Lib.hid hcall; have HV := Lib.hid hV
  clear hcall hV kq kl kn kv hsV hv hqM
  go_enter Tryz.func47, Tryz.ntmps47
  go_wp2_with fail
  rw [HV.out]
  refine Hc.out.mono ?_
  rintro r w2 ⟨rfl, hb2, hx2⟩
  have hl9 := Q.lev_le 9 (.node k t n ps)
  rw [show (8 : Nat) + 1 = 9 from rfl] at hx2
  have e1 : (max (0 : Int) (8 - ((8 : Nat) : Int) + (Q.lev 9 (.node k t n ps) : Nat))) = (Q.lev 9 (.node k t n ps) : Nat) := by omega
  have e2 : ((0 : Int) + ((Q.pre 9 (.node k t n ps)).length : Nat)) = ((Q.pre 9 (.node k t n ps)).length : Nat) := by omega
  rw [e1, e2] at hx2
  obtain ⟨x0, x1, _⟩ := hx2.l.one
  obtain ⟨y0, y1, _⟩ := hx2.n.one
  have Hx2 := Lib.hid hx2
  clear e1 e2 hx2 hl9
  go_wp2_with fail
  go_region
  have hp := Hx2.out.put (by omega) (by omega) (by omega) (Q.lev 9 (.node k t n ps) : Nat) ((Q.pre 9 (.node k t n ps)).length : Nat)
  go_wp2_with fail
  have hb3 : Below w.heap.size w (((w2.setCell ⟨w.heap.size + 1, 0, none⟩ (.int .i64 (Q.lev 9 (.node k t n ps) : Nat))).setCell ⟨w.heap.size + 1 + 1, 0, none⟩ (.int .i64 ((Q.pre 9 (.node k t n ps)).length : Nat))).drew) :=
    (((hbV.trans hb2).setCell (p := ⟨w.heap.size + 1, 0, none⟩) (by show w.heap.size ≤ w.heap.size + 1; omega) _).setCell (p := ⟨w.heap.size + 1 + 1, 0, none⟩) (by show w.heap.size ≤ w.heap.size + 1 + 1; omega) _).drew
  obtain ⟨W, hW⟩ : ∃ W, (w2.setCell ⟨w.heap.size + 1, 0, none⟩ (.int .i64 (Q.lev 9 (.node k t n ps) : Nat))).setCell ⟨w.heap.size + 1 + 1, 0, none⟩ (.int .i64 ((Q.pre 9 (.node k t n ps)).length : Nat)) = W := ⟨_, rfl⟩
  rw [hW] at hp hb3 ⊢
  obtain ⟨u0, _, _⟩ := (show Blk W.drew _ _ _ from hp.l).one
  obtain ⟨u1, _, _⟩ := (show Blk W.drew _ _ _ from hp.n).one
  exact bodyPost_ret (v := .tuple #[.int .i64 (Q.lev 9 (.node k t n ps) : Nat), .int .i64 ((Q.pre 9 (.node k t n ps)).length : Nat)]) (by simp [results, Tryz.results47, go_sem, u0, u1]) rfl ⟨rfl, hb3⟩
end Go.Proofs.YtiohhajkegpebaaGreatDoor
namespace Go.Proofs.YtiohhajkegpebaaGreatDoor
open Go.RowKit
set_option linter.unusedVariables false
def shapesA : Array Value := #[.int .i64 0, .int .i64 0, .int .i64 0, .int .i64 0, .int .i64 0, .int .i64 0, .int .i64 0, .int .i64 0, .int .i64 1, .int .i64 0, .int .i64 0, .int .i64 1, .int .i64 0, .int .i64 0, .int .i64 (-1), .int .i64 0, .int .i64 0, .int .i64 2, .int .i64 2, .int .i64 60, .int .i64 0, .int .i64 2, .int .i64 60, .int .i64 0, .int .i64 1, .int .i64 1, .int .i64 0]
set_option maxRecDepth 100000 in
set_option maxHeartbeats 4000000 in
theorem shapes_ok (w : World) : Calls Tryz.prog 71 #[] w fun e w' => e = .returned (.agg shapesA) ∧ Below w.heap.size w w' := by
  obtain ⟨W, hW⟩ : ∃ W, w.alloc (.cells #[.int .i64 0, .int .i64 0, .int .i64 0, .int .i64 0, .int .i64 0, .int .i64 0, .int .i64 0, .int .i64 0, .int .i64 0, .int .i64 0, .int .i64 0, .int .i64 0, .int .i64 0, .int .i64 0, .int .i64 0, .int .i64 0, .int .i64 0, .int .i64 0, .int .i64 0, .int .i64 0, .int .i64 0, .int .i64 0, .int .i64 0, .int .i64 0, .int .i64 0, .int .i64 0, .int .i64 0] 103) = W := ⟨_, rfl⟩
  have hg : ∃ z, W.heap[w.heap.size]? = some (.cells z 103 (0, 0)) ∧ z.size = 27 := ⟨_, by rw [← hW]; exact Blk.new w _ _, rfl⟩
  obtain ⟨z, hg, hz⟩ := hg
  have hb : Below w.heap.size w W := by rw [← hW]; exact (Below.refl _ _).alloc (Nat.le_refl _) _
  have hb2 : Below w.heap.size w (W.setRow w.heap.size shapesA) := hb.trans ⟨rfl, rfl, rfl, by simp, fun k hk => setRow_other _ _ _ _ (by omega)⟩
  have hr := setRow_heap W w.heap.size z shapesA 103 (0, 0) hg
  have HW := Lib.hid hW
  clear hW hb
  go_enter Tryz.func71, Tryz.ntmps71
  go_upto_region 1 with (fail)
  rw [HW.out]
  apply wp_region_lit
  refine wpList_buildTo rfl 102 _ rfl (some 1) rfl #[.int .i64 0, .int .i64 0, .int .i64 1] (by kernel_rfl) ?_
  refine wpList_buildTo rfl 102 _ rfl (some 2) rfl #[.int .i64 0, .int .i64 0, .int .i64 1] (by kernel_rfl) ?_
  refine wpList_buildTo rfl 102 _ rfl (some 3) rfl #[.int .i64 0, .int .i64 0, .int .i64 (-1)] (by kernel_rfl) ?_
  refine wpList_buildTo rfl 102 _ rfl (some 4) rfl #[.int .i64 0, .int .i64 0, .int .i64 2] (by kernel_rfl) ?_
  refine wpList_buildTo rfl 102 _ rfl (some 5) rfl #[.int .i64 2, .int .i64 60, .int .i64 0] (by kernel_rfl) ?_
  refine wpList_buildTo rfl 102 _ rfl (some 6) rfl #[.int .i64 2, .int .i64 60, .int .i64 0] (by kernel_rfl) ?_
  refine wpList_buildTo rfl 102 _ rfl (some 7) rfl #[.int .i64 1, .int .i64 1, .int .i64 0] (by kernel_rfl) ?_
  refine wpList_buildTo rfl 103 _ rfl (some 8) rfl shapesA (by kernel_rfl) ?_
  refine wpList_store_rowTo rfl 103 _ _ rfl rfl w.heap.size shapesA (by kernel_rfl) (by kernel_rfl) 103 z hg (by kernel_rfl) (by rw [hz]; rfl) (by kernel_rfl) ?_
  apply wpList_nil
  obtain ⟨V, hV⟩ : ∃ V, W.setRow w.heap.size shapesA = V := ⟨_, rfl⟩
  rw [hV] at hb2 hr ⊢
  clear hV hg hz
  go_wp2_with fail
  exact bodyPost_ret (v := .agg shapesA) (results_cell_row Tryz.results71 _ V w.heap.size 103 shapesA (0, 0) _ (by kernel_rfl) hr Tryz.underlying103 rfl (by kernel_rfl)) rfl ⟨rfl, hb2⟩
end Go.Proofs.YtiohhajkegpebaaGreatDoor
namespace Go.Proofs.YtiohhajkegpebaaGreatDoor
open Go.RowKit
set_option linter.unusedVariables false
theorem take_get' {α : Type} (l : List α) (k : Nat) (h : k < l.length) : l.take (k + 1) = l.take k ++ [l[k]] := List.take_succ_eq_append_getElem h
theorem differ_at {α : Type} {l l' : List α} {k : Nat} (h : k < l.length) (h' : k < l'.length) (e : l[k] ≠ l'[k]) : l ≠ l' := fun h2 => by subst h2; exact e rfl
theorem same_end {α : Type} {l l' : List α} (hl : l.length = l'.length) (h : l.take l.length = l'.take l.length) : l = l' := by
  rw [List.take_length, List.take_of_length_le (by omega)] at h; exact h
set_option maxHeartbeats 1000000 in
theorem ints_ok (v v' : Value) (l l' : List Int) (w : World) (h : SlR intC M0 w v l) (h' : SlR intC M0 w v' l') : Calls Tryz.prog 9 #[v, v'] w fun e w' => e = .returned (.bool (l == l')) ∧ Below w.heap.size w w' := by
  obtain ⟨A, c, rfl, _, _⟩ := h.form
  obtain ⟨A', c', rfl, _, _⟩ := h'.form
  obtain ⟨hlc, hcm⟩ := h.lenM
  obtain ⟨hlc', hcm'⟩ := h'.lenM
  by_cases hl : l.length = l'.length
  · have hl' : ((l.length : Int) != (l'.length : Int)) = false := by simp [hl]
    have Hl := Lib.hid hl
    clear hl
    go_enter Tryz.func9, Tryz.ntmps9
    go_wp2
    go_loopw [5] (fun i wr => ∃ k : Nat, k ≤ l.length ∧ i = .int .i64 k ∧ Hid (l.take k = l'.take k) ∧ Below w.heap.size w wr) (fun i _ => l.length - (intOf i).toNat)
    case atStart => exact ⟨0, Nat.zero_le _, rfl, Lib.hid rfl, Below.refl _ _⟩
    case round =>
      obtain ⟨k, hk, rfl, hpre, hb⟩ := hrel
      by_cases hlt : k < l.length
      · have hlt' : k < l'.length := by have := Hl.out; omega
        obtain ⟨b, off, rfl, _, _, q0, _, _⟩ := (h.ext hb).intAt hlt
        obtain ⟨b', off', rfl, _, _, p0, _, _⟩ := (h'.ext hb).intAt hlt'
        obtain ⟨s, hx⟩ : ∃ x, x = l[k] := ⟨_, rfl⟩
        obtain ⟨s', hx'⟩ : ∃ x, x = l'[k] := ⟨_, rfl⟩
        rw [← hx] at q0
        rw [← hx'] at p0
        obtain ⟨t, ht⟩ : ∃ t, (s == s') = t := ⟨_, rfl⟩
        have Hx := Lib.hid hx; have Hx' := Lib.hid hx'
        clear hx hx'
        have hi1 : (k : Int) < (l.length : Int) := by omega
        have hi2 : (k : Int) < (l'.length : Int) := by omega
        cases t with
        | true =>
          have hnn : (s != s') = false := by rw [bne, ht]; rfl
          go_wp2
          go_quiet (fail)
          go_wp2
          go_roundw
          case rel => exact ⟨k + 1, by omega, by go_num, Lib.hid (by rw [take_get' l k hlt, take_get' l' k hlt', hpre.out, ← Hx.out, ← Hx'.out, eq_of_beq ht]), hb.trans (below_drewN' _ _ _)⟩
          case measure => simp [intOf]; omega
        | false =>
          have hnn : (s != s') = true := by rw [bne, ht]; rfl
          go_wp2
          go_quiet (fail)
          go_wp2
          go_ret
          have hne : (l == l') = false := by
            rw [beq_eq_false_iff_ne]
            intro e
            subst e
            rw [Hx.out, Hx'.out] at ht
            simp at ht
          exact ⟨ret_bool (by rw [hne]), hb.trans (below_drewN' _ _ _)⟩
      · have he : k = l.length := by omega
        subst he
        go_wp2
        go_ret
        refine ⟨ret_bool ?_, hb⟩
        have hp := hpre.out
        rw [List.take_length, List.take_of_length_le (by have := Hl.out; omega)] at hp
        rw [hp]; simp
  · have hl' : ((l.length : Int) != (l'.length : Int)) = true := by simp; omega
    have hne : (l == l') = false := by simp; intro h; exact hl (by rw [h])
    rw [hne]
    go_enter Tryz.func9, Tryz.ntmps9
    go_wp2
    go_ret
    exact ⟨rfl, Below.refl _ _⟩

end Go.Proofs.YtiohhajkegpebaaGreatDoor

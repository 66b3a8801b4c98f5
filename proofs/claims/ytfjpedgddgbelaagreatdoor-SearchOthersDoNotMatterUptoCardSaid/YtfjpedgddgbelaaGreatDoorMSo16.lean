/-
  Contracts and plain facts, one after another: The index of texts, made at once, is the one to which they have been added one by one; plain; The reference Made: its plain steps, and the states of its walk; The reference insert: a text into a sorted row; The reference: Ints, SamePostings, SameIndex.
-/
import Derived.Test.YtfjpedgddgbelaaGreatDoorMSo9
import Derived.Test.YtfjpedgddgbelaaGreatDoorMSo12
import Derived.Test.YtfjpedgddgbelaaGreatDoorMSo7
import Derived.Test.YtfjpedgddgbelaaGreatDoorMSo6
import Derived.Test.YtfjpedgddgbelaaGreatDoorMSo1
import Derived.Deep.QuietTactic
import Derived.BigQuiet
/-
  The index of texts, made at once, is the one to which they have been added one by one; plain.
-/
namespace Go.Proofs.YtfjpedgddgbelaaGreatDoor
namespace Ix
set_option linter.unusedVariables false
/-- a word in its place among others -/
def insW (l : List Str) (s : Str) : List Str := l.takeWhile (fun a => ltS a s) ++ s :: l.dropWhile (fun a => ltS a s)
def putW (l : List Str) (s : Str) : List Str := if s ∈ l then l else insW l s
def wordsOf (ws : List Str) : List Str := ws.foldl putW []
abbrev Doc := Int × List Str
def postsOf (docs : List Doc) (w : Str) : List Post := docs.filterMap fun d => if occ w d.2 0 = [] then none else some (d.1, occ w d.2 0)
def madeF (docs : List Doc) : Idx := (docs.map fun d => d.1, (wordsOf (docs.flatMap fun d => d.2)).map fun w => (w, postsOf docs w))
def SortedW (l : List Str) : Prop := l.Pairwise fun a b => ltS a b = true
theorem insW_split {l : List Str} (h : SortedW l) (s : Str) : (∀ a ∈ l.takeWhile (fun a => ltS a s), ltS a s = true) ∧ (s ∉ l → ∀ a ∈ l.dropWhile (fun a => ltS a s), ltS s a = true) := by
  induction l with
  | nil => simp
  | cons b r ih =>
    have h0 := h
    unfold SortedW at h
    rw [List.pairwise_cons] at h
    rw [List.takeWhile_cons, List.dropWhile_cons]
    cases hb : ltS b s with
    | true =>
      simp only [if_true]
      obtain ⟨h1, h2⟩ := ih h.2
      refine ⟨fun a ha => ?_, fun hs a ha => h2 (fun e => hs (List.mem_cons_of_mem _ e)) a ha⟩
      rcases List.mem_cons.1 ha with e | e
      · rw [e]; exact hb
      · exact h1 a e
    | false =>
      simp only [Bool.false_eq_true, if_false]
      refine ⟨fun a ha => (by cases ha), fun hs a ha => ?_⟩
      have hsb : ltS s b = true := by
        rcases ltS_total s b with e | e | e
        · exact e
        · exact absurd (by rw [e]; exact List.mem_cons_self) hs
        · rw [e] at hb; cases hb
      rcases List.mem_cons.1 ha with e | e
      · rw [e]; exact hsb
      · exact ltS_trans hsb (h.1 a e)
theorem putW_sorted {l : List Str} (h : SortedW l) (s : Str) : SortedW (putW l s) := by
  unfold putW
  split
  · exact h
  · rename_i hs
    obtain ⟨h1, h2⟩ := insW_split h s
    have hs' := h2 hs
    unfold SortedW insW
    have hl : (l.takeWhile (fun a => ltS a s) ++ l.dropWhile (fun a => ltS a s)).Pairwise fun a b => ltS a b = true := by rw [List.takeWhile_append_dropWhile]; exact h
    rw [List.pairwise_append] at hl ⊢
    refine ⟨hl.1, List.pairwise_cons.2 ⟨hs', hl.2.1⟩, fun a ha b hb => ?_⟩
    rcases List.mem_cons.1 hb with e | e
    · rw [e]; exact h1 a ha
    · exact hl.2.2 a ha b e
theorem mem_putW {l : List Str} {s a : Str} : a ∈ putW l s ↔ a = s ∨ a ∈ l := by
  unfold putW
  split
  · rename_i hs
    exact ⟨.inr, fun h => h.elim (fun e => e ▸ hs) id⟩
  · unfold insW
    have : a ∈ l ↔ a ∈ l.takeWhile (fun a => ltS a s) ++ l.dropWhile (fun a => ltS a s) := by rw [List.takeWhile_append_dropWhile]
    rw [this]
    simp only [List.mem_append, List.mem_cons]
    constructor <;> rintro (h | h | h) <;> simp [h]
theorem foldW (ws : List Str) : ∀ l, SortedW l → SortedW (ws.foldl putW l) ∧ ∀ a, a ∈ ws.foldl putW l ↔ a ∈ l ∨ a ∈ ws := by
  induction ws with
  | nil => intro l h; exact ⟨h, fun a => by simp⟩
  | cons w ws ih =>
    intro l h
    obtain ⟨h1, h2⟩ := ih (putW l w) (putW_sorted h w)
    refine ⟨h1, fun a => ?_⟩
    rw [List.foldl_cons, h2, mem_putW, List.mem_cons]
    constructor
    · rintro ((h | h) | h) <;> simp [h]
    · rintro (h | h | h) <;> simp [h]
theorem wordsOf_sorted (ws : List Str) : SortedW (wordsOf ws) := (foldW ws [] List.Pairwise.nil).1
theorem mem_wordsOf {ws : List Str} {a : Str} : a ∈ wordsOf ws ↔ a ∈ ws := by
  unfold wordsOf
  rw [(foldW ws [] List.Pairwise.nil).2]
  simp
theorem postsOf_mem {docs : List Doc} {w : Str} {p : Post} : p ∈ postsOf docs w ↔ ∃ d ∈ docs, d.1 = p.1 ∧ occ w d.2 0 = p.2 ∧ p.2 ≠ [] := by
  unfold postsOf
  rw [List.mem_filterMap]
  constructor
  · rintro ⟨d, hd, h⟩
    by_cases hne : occ w d.2 0 = []
    · rw [if_pos hne] at h; cases h
    · rw [if_neg hne] at h
      injection h with h
      subst h
      exact ⟨d, hd, rfl, rfl, hne⟩
  · rintro ⟨d, hd, e1, e2, hne⟩
    refine ⟨d, hd, ?_⟩
    rw [e2, if_neg hne, e1]
theorem postsOf_sorted {docs : List Doc} (h : (docs.map fun d => d.1).Pairwise (· < ·)) (w : Str) : Al.Sorted ltI (postsOf docs w) := by
  unfold Al.Sorted postsOf
  rw [List.pairwise_filterMap]
  rw [List.pairwise_map] at h
  refine h.imp fun {a b} hab p hp q hq => ?_
  split at hp
  · cases hp
  · split at hq
    · cases hq
    · injection hp with hp
      injection hq with hq
      subst hp hq
      simpa [ltI] using hab
theorem made_wf {docs : List Doc} (h : (docs.map fun d => d.1).Pairwise (· < ·)) : Wf (madeF docs).2 := by
  refine ⟨?_, fun t ht => ?_⟩
  · show Al.Sorted ltS ((wordsOf _).map _)
    unfold Al.Sorted
    rw [List.pairwise_map]
    exact wordsOf_sorted _
  · obtain ⟨w, hw, rfl⟩ := List.mem_map.1 ht
    refine ⟨fun e => ?_, postsOf_sorted h w, fun p hp => (postsOf_mem.1 hp).choose_spec.2.2.2⟩
    obtain ⟨d, hd, hwd⟩ := List.mem_flatMap.1 (mem_wordsOf.1 hw)
    have hne : occ w d.2 0 ≠ [] := fun e' => (occ_nil _ _ _).1 e' hwd
    have : (d.1, occ w d.2 0) ∈ postsOf docs w := postsOf_mem.2 ⟨d, hd, rfl, rfl, hne⟩
    simp only at e
    rw [e] at this
    cases this
theorem cont_made {docs : List Doc} (h : (docs.map fun d => d.1).Pairwise (· < ·)) (w : Str) (i : Int) : cont (madeF docs).2 w i = match docs.find? (fun d => d.1 == i) with | some d => occ w d.2 0 | none => [] := by
  have hwf := made_wf h
  have uniq : ∀ d ∈ docs, ∀ d' ∈ docs, d.1 = d'.1 → d = d' := by
    intro d hd d' hd' e
    obtain ⟨a, ha, rfl⟩ := List.mem_iff_getElem.1 hd
    obtain ⟨b, hb, rfl⟩ := List.mem_iff_getElem.1 hd'
    rw [List.pairwise_map] at h
    have hp := List.pairwise_iff_getElem.1 h
    rcases Nat.lt_trichotomy a b with h1 | h1 | h1
    · have := hp a b ha hb h1; omega
    · subst h1; rfl
    · have := hp b a hb ha h1; omega
  by_cases hc : cont (madeF docs).2 w i = []
  · rw [hc]
    cases hf : docs.find? (fun d => d.1 == i) with
    | none => rfl
    | some d =>
      have hd := List.mem_of_find?_eq_some hf
      have hdi : d.1 = i := by simpa using List.find?_some hf
      show [] = occ w d.2 0
      cases ho : occ w d.2 0 with
      | nil => rfl
      | cons a r =>
        exfalso
        have hne : occ w d.2 0 ≠ [] := by rw [ho]; simp
        have hw : w ∈ d.2 := Classical.byContradiction fun hno => hne ((occ_nil _ _ _).2 hno)
        have ht : (w, postsOf docs w) ∈ (madeF docs).2 := List.mem_map.2 ⟨w, mem_wordsOf.2 (List.mem_flatMap.2 ⟨d, hd, hw⟩), rfl⟩
        have := cont_mem hwf ht (show (d.1, occ w d.2 0) ∈ postsOf docs w from postsOf_mem.2 ⟨d, hd, rfl, rfl, hne⟩)
        simp only at this
        rw [hdi, hc, ho] at this
        cases this
  · obtain ⟨t, ht, e1, p, hp, e2, e3⟩ := mem_cont hc
    obtain ⟨w', hw', rfl⟩ := List.mem_map.1 ht
    simp only at e1 hp
    subst e1
    obtain ⟨d, hd, h1, h2, h3⟩ := postsOf_mem.1 hp
    have hf : docs.find? (fun d => d.1 == i) = some d := by
      cases hf : docs.find? (fun d => d.1 == i) with
      | none => have := List.find?_eq_none.1 hf d hd; simp [h1, e2] at this
      | some d' =>
        have hd' := List.mem_of_find?_eq_some hf
        have hdi : d'.1 = i := by simpa using List.find?_some hf
        rw [uniq d' hd' d hd (by rw [hdi, h1, e2])]
    rw [hf, ← e3, ← h2]
/-- texts added one by one -/
def addAll (docs : List Doc) : Idx := docs.foldl (fun x d => addF x d.1 d.2) ([], [])
theorem insId_end {ids : List Int} {id : Int} (h : ∀ n ∈ ids, n < id) : insId ids id = ids ++ [id] := by
  unfold insId
  rw [List.filter_eq_self.2 fun n hn => by simpa using h n hn, List.filter_eq_nil_iff.2 fun n hn => by have := h n hn; simp; omega]
theorem wf_nil : Wf [] := ⟨List.Pairwise.nil, fun t ht => by cases ht⟩
theorem made_snoc {docs : List Doc} {d : Doc} (h : ((docs ++ [d]).map fun d => d.1).Pairwise (· < ·)) : madeF (docs ++ [d]) = addF (madeF docs) d.1 d.2 := by
  have h0 := h
  rw [List.map_append, List.pairwise_append] at h
  have hlt : ∀ n ∈ docs.map (fun d => d.1), n < d.1 := fun n hn => h.2.2 n hn d.1 (by simp)
  have hwf := made_wf h.1
  have e1 : (madeF (docs ++ [d])).1 = (addF (madeF docs) d.1 d.2).1 := by
    show (docs ++ [d]).map _ = insId (docs.map _) d.1
    rw [insId_end hlt, List.map_append]; rfl
  have e2 : (madeF (docs ++ [d])).2 = (addF (madeF docs) d.1 d.2).2 := by
    refine Wf.ext (made_wf h0) (Wf.putAll d.1 d.2 0 hwf) fun w i => ?_
    rw [cont_made h0, show (addF (madeF docs) d.1 d.2).2 = putAll d.1 d.2 0 (madeF docs).2 from rfl, cont_putAll d.1 d.2 0 hwf, List.find?_append]
    have hno : docs.find? (fun d' => d'.1 == d.1) = none := List.find?_eq_none.2 fun d' hd' e => by
      have := hlt d'.1 (List.mem_map.2 ⟨d', hd', rfl⟩)
      have e' : d'.1 = d.1 := by simpa using e
      omega
    by_cases hi : i = d.1
    · subst hi
      rw [hno, if_pos rfl, cont_made h.1, hno]
      simp
    · rw [if_neg hi, cont_made h.1]
      have : (d.1 == i) = false := by simpa using fun e => hi e.symm
      cases hf : docs.find? (fun d => d.1 == i) with
      | some d' => simp
      | none => simp [this]
  exact Prod.ext e1 e2
theorem made_nil : madeF [] = ([], []) := rfl
end Ix
end Go.Proofs.YtfjpedgddgbelaaGreatDoor
/-
  The reference Made: its plain steps, and the states of its walk.
-/
namespace Go.Proofs.YtfjpedgddgbelaaGreatDoor
open Go.RowKit
set_option linter.unusedVariables false
namespace Ix
theorem occ_snoc (w a : Str) : ∀ (s : List Str) (n : Nat), occ w (s ++ [a]) n = occ w s n ++ if a = w then [((n + s.length : Nat) : Int)] else []
  | [], n => by
    rw [List.nil_append, occ, occ]
    split <;> simp [occ]
  | b :: s, n => by
    rw [List.cons_append, occ, occ, occ_snoc w a s (n + 1), List.length_cons, show n + 1 + s.length = n + (s.length + 1) by omega]
    split <;> simp
theorem occ_take (w : Str) (s : List Str) {k : Nat} (hk : k < s.length) : occ w (s.take (k + 1)) 0 = occ w (s.take k) 0 ++ if s[k] = w then [(k : Int)] else [] := by
  rw [List.take_succ_eq_append_getElem hk, occ_snoc, List.length_take, Nat.min_eq_left (by omega), Nat.zero_add]
/-- texts as lists of stems -/
def stemsD (docs : List (Int × Str)) : List Doc := docs.map fun d => (d.1, Sm.stems d.2)
theorem stemsD_take (docs : List (Int × Str)) {k : Nat} (hk : k < docs.length) : stemsD (docs.take (k + 1)) = stemsD (docs.take k) ++ [(docs[k].1, Sm.stems docs[k].2)] := by
  unfold stemsD
  rw [List.take_succ_eq_append_getElem hk, List.map_append]
  rfl
theorem postsOf_take (docs : List (Int × Str)) (w : Str) {k : Nat} (hk : k < docs.length) : postsOf (stemsD (docs.take (k + 1))) w = postsOf (stemsD (docs.take k)) w ++ if occ w (Sm.stems docs[k].2) 0 = [] then [] else [(docs[k].1, occ w (Sm.stems docs[k].2) 0)] := by
  unfold postsOf
  rw [stemsD_take docs hk, List.filterMap_append]
  congr 1
  by_cases h : occ w (Sm.stems docs[k].2) 0 = []
  · simp [h]
  · simp [h]
def wordsD (docs : List (Int × Str)) : List Str := wordsOf ((stemsD docs).flatMap fun d => d.2)
theorem wordsD_take (docs : List (Int × Str)) {k : Nat} (hk : k < docs.length) : wordsD (docs.take (k + 1)) = (Sm.stems docs[k].2).foldl putW (wordsD (docs.take k)) := by
  unfold wordsD wordsOf
  rw [stemsD_take docs hk, List.flatMap_append, List.foldl_append]
  simp
theorem putW_len (l : List Str) (s : Str) : (putW l s).length ≤ l.length + 1 := by
  unfold putW
  split
  · omega
  · unfold insW
    have := congrArg List.length (List.takeWhile_append_dropWhile (p := fun a => ltS a s) (l := l))
    rw [List.length_append] at this
    rw [List.length_append, List.length_cons]
    omega
theorem foldW_len : ∀ (ws l : List Str), (ws.foldl putW l).length ≤ l.length + ws.length
  | [], l => Nat.le_refl _
  | w :: ws, l => by
    have := foldW_len ws (putW l w)
    have := putW_len l w
    rw [List.foldl_cons, List.length_cons]
    omega
theorem wordsD_len (docs : List (Int × Str)) (h : ∀ d ∈ docs, d.2.length ≤ 4000) (hn : docs.length ≤ 100) : (wordsD docs).length ≤ 400000 := by
  have h1 := foldW_len ((stemsD docs).flatMap fun d => d.2) []
  have h2 : ∀ l : List (Int × Str), (∀ d ∈ l, d.2.length ≤ 4000) → ((stemsD l).flatMap fun d => d.2).length ≤ 4000 * l.length := by
    intro l
    induction l with
    | nil => intro _; simp [stemsD]
    | cons d l ih =>
      intro h
      have := ih fun d hd => h d (.tail _ hd)
      have := stems_count d.2
      have := h d (.head _)
      unfold stemsD at *
      rw [List.map_cons, List.flatMap_cons, List.length_append, List.length_cons]
      simp only at *
      omega
  have := h2 docs h
  unfold wordsD wordsOf
  simp only [List.length_nil] at h1
  omega
theorem take_all (docs : List (Int × Str)) {k : Nat} (h : k = docs.length) : docs.take k = docs := by rw [h, List.take_length]
/-- the terms of the first words -/
def termsD (docs : List (Int × Str)) (words : List Str) : List Term := words.map fun w => (w, postsOf (stemsD docs) w)
theorem made_eq (docs : List (Int × Str)) : madeF (stemsD docs) = (docs.map fun d => d.1, termsD docs (wordsD docs)) := by
  unfold madeF termsD wordsD
  congr 1
  unfold stemsD
  rw [List.map_map]
  rfl
end Ix
/-! ### the states -/
def docC : Codec (Int × Str) := pairC intC strC
theorem SlR.docAt {M : Nat → Prop} {w : World} {A : Option Addr} {n c : Nat} {l : List (Int × Str)} (h : SlR docC M w (.slice A n c) l) {k : Nat} (hk : k < l.length) :
    ∃ b off, A = some ⟨b, off, none⟩ ∧ b < w.heap.size ∧ w.cell? ⟨b, off + k * 2, none⟩ = some (.int .i64 l[k].1) ∧ w.cell? ⟨b, off + k * 2 + 1, none⟩ = some (.string (bs l[k].2)) ∧ -9223372036854775808 ≤ l[k].1 ∧ l[k].1 ≤ 9223372036854775807 := by
  obtain ⟨b, off, cs, rfl, hM, hb, ⟨c1, d1, rfl, ⟨rfl, hr⟩, ⟨rfl, _⟩⟩, hc⟩ := h.at_ hk
  exact ⟨b, off, rfl, hb, hc 0 _ rfl, hc 1 _ rfl, hr.1, hr.2⟩
/-- the blocks below B are as they were, but for one -/
structure Sav (B g : Nat) (w w' : World) : Prop where
  os : w'.os = w.os
  tape : w'.tape = w.tape
  output : w'.output = w.output
  size : w.heap.size ≤ w'.heap.size
  block : ∀ b, b < B → b ≠ g → w'.heap[b]? = w.heap[b]?
theorem Sav.refl (B g : Nat) (w : World) : Sav B g w w := ⟨rfl, rfl, rfl, Nat.le_refl _, fun _ _ _ => rfl⟩
theorem Sav.below {B g : Nat} {w w' w'' : World} (h : Sav B g w w') (hb : Below B w' w'') : Sav B g w w'' :=
  ⟨hb.os.trans h.os, hb.tape.trans h.tape, hb.output.trans h.output, Nat.le_trans h.size hb.size, fun b h1 h2 => (hb.block b h1).trans (h.block b h1 h2)⟩
theorem Sav.set {B g : Nat} {w w' : World} (h : Sav B g w w') (i : Nat) (u : Value) : Sav B g w (w'.setCell ⟨g, i, none⟩ u) :=
  ⟨h.os, h.tape, h.output, by simpa using h.size, fun b h1 h2 => (heap_set_ne _ _ _ h2).trans (h.block b h1 h2)⟩
theorem Sav.whole {B B0 g : Nat} {w w1 w' : World} (h : Sav B g w1 w') (h0 : Below B0 w w1) (h1 : B0 ≤ B) (h2 : B0 ≤ g) : Below B0 w w' :=
  ⟨h.os.trans h0.os, h.tape.trans h0.tape, h.output.trans h0.output, Nat.le_trans h0.size h.size, fun b hb => (h.block b (by omega) (by omega)).trans (h0.block b hb)⟩
theorem SlR.apart {α : Type} {C : Codec α} {w w' : World} {v : Value} {l : List α} {g : Nat} (h : SlR C (fun b => b ≤ g) w v l) (ha : Sav w.heap.size g w w') : SlR C (fun b => b ≤ g) w' v l :=
  h.keep (fun b h1 h2 => ha.block b h1 (by omega)) ha.size
/-- the words under way -/
structure Mk1 (B g3 : Nat) (vI vW : Value) (ids : List Int) (words : List Str) (w1 wr : World) : Prop where
  kx : Blk wr g3 25 #[vI, .slice none 0 0]
  ownI : Own intC M0 wr B 3 vI ids
  ownW : Own strC M0 wr B 9 vW words
  ne : ∀ b, vW.ownBlock = some b → vI.ownBlock ≠ some b
  apart : Sav B g3 w1 wr
  big : B ≤ wr.heap.size
variable {B g3 : Nat} {vI vW : Value} {ids : List Int} {words : List Str} {w1 wr : World}
theorem Mk1.ext (h : Mk1 B g3 vI vW ids words w1 wr) {w' : World} (hb : Below wr.heap.size wr w') : Mk1 B g3 vI vW ids words w1 w' :=
  ⟨h.kx.ext hb, h.ownI.ext hb, h.ownW.ext hb, h.ne, h.apart.below (hb.mono h.big), Nat.le_trans h.big hb.size⟩
theorem Mk1.word (h : Mk1 B g3 vI vW ids words w1 wr) {w' : World} {vW' : Value} {words' : List Str} (hb : Below wr.heap.size wr w') (ho : Own strC M0 w' wr.heap.size 9 vW' words') : Mk1 B g3 vI vW' ids words' w1 w' :=
  ⟨h.kx.ext hb, h.ownI.ext hb, ho.lower h.big, fun b h1 h2 => by have := ho.base b h1; have := h.ownI.lt b h2; omega, h.apart.below (hb.mono h.big), Nat.le_trans h.big hb.size⟩
theorem Mk1.push (h : Mk1 B g3 vI vW ids words w1 wr) (hg : g3 < B) {V1 V2 W : World} {vI' : Value} {ids' : List Int} (hV : Below wr.heap.size wr V1) (hgr : V1.grownBy V2 vI.ownBlock) (hown : Own intC M0 V2 B 3 vI' ids') (hor : vI'.ownBlock = vI.ownBlock ∨ vI'.ownBlock = some V1.heap.size) (hW : V2.setCell ⟨g3, 0, none⟩ vI' = W) : Mk1 B g3 vI' vW ids' words w1 W := by
  have hs := hV.size
  have same : ∀ b, b < wr.heap.size → vI.ownBlock ≠ some b → V2.heap[b]? = wr.heap[b]? := fun b h1 h2 => (hgr.block b (by omega) fun e => h2 e.symm).trans (hV.block b h1)
  have hbI : ∀ b, vI.ownBlock = some b → B ≤ b := h.ownI.base
  have k3 : Blk V2 g3 25 #[vI, .slice none 0 0] := h.kx.keep (same g3 h.kx.lt fun e => by have := hbI g3 e; omega)
  refine ⟨hW ▸ k3.set_ 0 vI', hown.flatC flatC_int fun b hb => ?_, h.ownW.flatC flatC_str fun b hb => ?_, fun b h1 h2 => ?_, ?_, ?_⟩
  · rw [← hW]; exact heap_set_ne _ _ _ (by have := hown.base b hb; omega)
  · rw [← hW, heap_set_ne _ _ _ (by have := h.ownW.base b hb; omega)]; exact same b (h.ownW.lt b hb) (h.ne b hb)
  · rcases hor with e | e
    · exact h.ne b h1 (e ▸ h2)
    · rw [e] at h2; injection h2 with h2; have := h.ownW.lt b h1; omega
  · rw [← hW]
    have hb2 : Below B wr V2 := ⟨hgr.os.trans hV.os, hgr.tape.trans hV.tape, hgr.output.trans hV.output, Nat.le_trans hs hgr.size, fun b hb => same b (by have := h.big; omega) fun e => by have := hbI b e; omega⟩
    exact (h.apart.below hb2).set 0 vI'
  · rw [← hW]; have := h.big; have := hgr.size; simp; omega
/-- the terms under way -/
structure Mk2 (g3 : Nat) (vI vT : Value) (ts : List Ix.Term) (w2 wr : World) : Prop where
  kx : Blk wr g3 25 #[vI, vT]
  own : Own termC (fun b => b ≤ g3) wr w2.heap.size 43 vT ts
  apart : Sav w2.heap.size g3 w2 wr
variable {vT : Value} {ts : List Ix.Term} {w2 : World}
theorem Mk2.ext (h : Mk2 g3 vI vT ts w2 wr) {w' : World} (hb : Below wr.heap.size wr w') : Mk2 g3 vI vT ts w2 w' :=
  ⟨h.kx.ext hb, h.own.ext hb, h.apart.below (hb.mono h.apart.size)⟩
theorem Mk2.push (h : Mk2 g3 vI vT ts w2 wr) (hg : g3 < w2.heap.size) {V2 W : World} {vT' : Value} {ts' : List Ix.Term} (hb : Below w2.heap.size wr V2) (hgr : wr.grownBy V2 vT.ownBlock) (hown : Own termC (fun b => b ≤ g3) V2 w2.heap.size 43 vT' ts') (hW : V2.setCell ⟨g3, 1, none⟩ vT' = W) : Mk2 g3 vI vT' ts' w2 W := by
  have k3 : Blk V2 g3 25 #[vI, vT] := h.kx.keep (hgr.block g3 h.kx.lt fun e => by have := h.own.base g3 e.symm; omega)
  refine ⟨hW ▸ k3.set_ 1 vT', hown.keep (fun b _ hor => ?_) (by rw [← hW]; simp) (fun b hb (e : b ≤ g3) => by have := hown.base b hb; omega), ?_⟩
  · rw [← hW]
    refine heap_set_ne _ _ _ ?_
    rcases hor with h1 | h1
    · omega
    · have := hown.base b h1; omega
  · rw [← hW]; exact (h.apart.below hb).set 1 vT'
end Go.Proofs.YtfjpedgddgbelaaGreatDoor
/-
  The reference insert: a text into a sorted row.
-/
namespace Go.Proofs.YtfjpedgddgbelaaGreatDoor
open Go.RowKit
set_option linter.unusedVariables false
theorem insW_at {l : List Str} {s : Str} {k : Nat} (hk : k ≤ l.length) (h1 : ∀ (j : Nat) (hj : j < l.length), j < k → ltS l[j] s = true) (h2 : ∀ (h : k < l.length), ltS l[k] s = false) : Ix.insW l s = l.take k ++ [s] ++ l.drop k := by
  have ht : l.takeWhile (fun a => ltS a s) = l.take k ∧ l.dropWhile (fun a => ltS a s) = l.drop k := by
    induction l generalizing k with
    | nil => cases k with
      | zero => exact ⟨rfl, rfl⟩
      | succ k => simp at hk
    | cons a l ih =>
      cases k with
      | zero =>
        have := h2 (by simp)
        rw [List.getElem_cons_zero] at this
        simp [this]
      | succ k =>
        have h0 := h1 0 (by simp) (by omega)
        rw [List.getElem_cons_zero] at h0
        have ih := ih (k := k) (by simpa using hk) (fun j hj hjk => by have := h1 (j + 1) (by simpa using hj) (by omega); simpa using this) (fun h => by have := h2 (by simpa using h); simpa using this)
        simp [h0, ih.1, ih.2]
  unfold Ix.insW
  rw [ht.1, ht.2]
  simp
theorem SlR.zeroA {α : Type} (C : Codec α) (M : Nat → Prop) (w : World) (A : Option Addr) (m : Nat) (hm : m ≤ maxLen) : SlR C M w (.slice A 0 m) [] := ⟨A, 0, m, [], rfl, rfl, Nat.zero_le _, hm, Els.nil C M w, fun h => absurd h (by omega)⟩
set_option maxRecDepth 20000 in
set_option maxHeartbeats 4000000 in
theorem refInsert_ok (v : Value) (l : List Str) (s : Str) (w : World) (h : SlR strC M0 w v l) (hn : l.length ≤ 1000000) (hsl : s.length ≤ maxLen) : Calls Tryz.prog 103 #[v, .string (bs s)] w fun e w' => ∃ (A : Option Addr) (c : Nat) (L : List Str), e = .returned (.slice A L.length c) ∧ Hid (L = Ix.insW l s) ∧ Own strC M0 w' w.heap.size 9 (.slice A L.length c) L ∧ Below w.heap.size w w' := by
  obtain ⟨A, c, rfl, hlc, hcm⟩ := h.form
  have hB := h.toMB
  unfold maxLen at hcm
  go_enter Tryz.func103, Tryz.ntmps103
  go_wp2
  go_loopw [5, 6] (fun ov iv wr => ∃ (k : Nat) (A2 : Option Addr) (c2 : Nat) (L : List Str), k ≤ l.length ∧ iv = .int .i64 (k : Int) ∧ ov = .slice A2 L.length c2 ∧ Hid (L = l.take k) ∧ Hid (∀ (j : Nat) (hj : j < l.length), j < k → ltS l[j] s = true) ∧ Own strC M0 wr w.heap.size 9 ov L ∧ Below w.heap.size w wr) (fun _ iv _ => l.length - (intOf iv).toNat)
  case atStart => exact ⟨0, none, 0, [], Nat.zero_le _, rfl, rfl, Lib.hid rfl, Lib.hid fun j _ h => absurd h (by omega), Own.nil _ _ _ _ _, Below.refl _ _⟩
  case round =>
    obtain ⟨k, A2, c2, L, hk, rfl, rfl, hL, hpre, own, hb⟩ := hrel
    have hLl : L.length = k := by rw [hL.out, List.length_take]; omega
    have hkw : IntKind.i64.wrap (k : Int) = (k : Int) := IntWalk.i64_in _ (by omega)
    have hk0 : (0 : Int) ≤ (k : Int) := by omega
    by_cases hlt : k < l.length
    · obtain ⟨b, off, rfl, _, _, p0, _⟩ := (h.ext hb).strAt hlt
      have hki : (k : Int) < (l.length : Int) := by omega
      obtain ⟨x, hx⟩ : ∃ x, x = l[k] := ⟨_, rfl⟩
      rw [← hx] at p0
      have Hx := Lib.hid hx
      clear hx
      by_cases hc : ltS x s = true
      · have hd : Op.bytesLess x s = true := hc
        clear hB
        have hxl : x.length ≤ maxLen := by obtain ⟨_, _, _, _, _, _, hxl⟩ := (h.ext hb).strAt hlt; rw [Hx.out]; exact hxl
        have HLl := Lib.hid hLl
        clear hLl
        have hbs := hb.size
        go_wp2_with (at_builtin; refine wpList_push_Own strC (M := M0) (B := w.heap.size) TStrs rfl (.tmp 19) (.tmp 24) rfl rfl own rfl (cs := [.string (bs x)]) (y := x) ⟨rfl, hxl⟩ (fun _ h => h.elim) ?a1 ?b1 hbs ?_)
        case a1 => have := HLl.out; unfold maxLen; omega
        case b1 => have := HLl.out; omega
        intro A4 c4 L4 w4 hL4 own4 hb4 _ _
        go_wp2
        go_roundw
        case rel => exact ⟨k + 1, A4, c4, L4, by omega, by go_num, rfl, Lib.hid (by rw [hL4.out, hL.out, List.take_succ_eq_append_getElem hlt, ← Hx.out]), Lib.hid (fun j hj hjk => by
          by_cases e : j = k
          · subst e; rw [← Hx.out]; exact hc
          · exact hpre.out j hj (by omega)), own4, hb.trans hb4⟩
        case measure => simp [intOf]; omega
      · replace hc : ltS x s = false := by simpa using hc
        have hd : Op.bytesLess x s = false := hc
        have hins : Ix.insW l s = l.take k ++ [s] ++ l.drop k := insW_at hk hpre.out (fun _ => by rw [← Hx.out]; exact hc)
        have Hins := Lib.hid hins
        have hk1 : (k : Int) ≤ (l.length : Int) := by omega
        have hk2 : (l.length : Int) ≤ (c : Int) := by omega
        have hk3 : (c : Int) ≤ 9223372036854775807 := by omega
        have HLl := Lib.hid hLl; have HB := Lib.hid hB
        clear hins hB hpre hLl
        have hbs := hb.size
        go_wp2_with (at_builtin; refine wpList_push_Own strC (M := M0) (B := w.heap.size) TStrs rfl (.tmp 28) (.tmp 30) rfl rfl own rfl (cs := [.string (bs s)]) (y := s) ⟨rfl, hsl⟩ (fun _ h => h.elim) ?a1 ?b1 hbs ?_)
        case a1 => have := HLl.out; unfold maxLen; omega
        case b1 => have := HLl.out; omega
        intro A4 c4 L4 w4 hL4 own4 hb4 _ _
        have Hb4 := Lib.hid (hb.trans hb4)
        have hL4l : L4.length = k + 1 := by rw [hL4.out, List.length_append, HLl.out]; rfl
        have hcut := (HB.out.ext Hb4.out).cutS (lo := k) (hi := l.length) hk (Nat.le_refl _) (by omega)
        rw [List.take_length, show k * strC.n = k from Nat.mul_one k] at hcut
        have hc4 := hcut.sub (M' := fun b => M0 b ∨ (Value.slice A4 L4.length c4).ownBlock = some b) fun b _ hor => hor.elim (fun h => h.elim) fun h => .inr (own4.base b h)
        have hdl : (l.drop k).length = l.length - k := List.length_drop
        have hs4 := Hb4.out.size
        go_wp2_with (at_builtin; refine wpList_append_Own strC (M := M0) (B := w.heap.size) (l := L4) (l' := l.drop k) TStrs rfl (.tmp 32) (.tmp 35) rfl (v := .slice A4 L4.length c4) rfl own4 rfl hc4 ?c1 ?d1 hs4 ?_)
        case c1 => unfold maxLen; omega
        case d1 => omega
        intro A5 c5 L5 w5 hL5 own5 hb5 _ _
        go_wp2
        go_ret
        exact ⟨A5, c5, L5, rfl, Lib.hid (by rw [hL5.out, hL4.out, hL.out, Hins.out]), own5, Hb4.out.trans hb5⟩
    · skip
      have hins : Ix.insW l s = l.take k ++ [s] ++ l.drop k := insW_at hk hpre.out (fun h => absurd h hlt)
      have Hins := Lib.hid hins
      have hk1 : (k : Int) ≤ (l.length : Int) := by omega
      have hk2 : (l.length : Int) ≤ (c : Int) := by omega
      have hk3 : (c : Int) ≤ 9223372036854775807 := by omega
      have HLl := Lib.hid hLl; have HB := Lib.hid hB
      clear hins hB hpre hLl
      have hbs := hb.size
      go_wp2_with (at_builtin; refine wpList_push_Own strC (M := M0) (B := w.heap.size) TStrs rfl (.tmp 28) (.tmp 30) rfl rfl own rfl (cs := [.string (bs s)]) (y := s) ⟨rfl, hsl⟩ (fun _ h => h.elim) ?a1 ?b1 hbs ?_)
      case a1 => have := HLl.out; unfold maxLen; omega
      case b1 => have := HLl.out; omega
      intro A4 c4 L4 w4 hL4 own4 hb4 _ _
      have Hb4 := Lib.hid (hb.trans hb4)
      have hL4l : L4.length = k + 1 := by rw [hL4.out, List.length_append, HLl.out]; rfl
      have hc4 : ∀ A m, m ≤ maxLen → SlR strC (fun b => M0 b ∨ (Value.slice A4 L4.length c4).ownBlock = some b) w4 (.slice A 0 m) (l.drop k) := fun A m hm => by rw [List.drop_of_length_le (by omega)]; exact SlR.zeroA _ _ _ _ _ hm
      obtain rfl : k = l.length := by omega
      have hfin : l.take l.length ++ [s] ++ l.drop l.length = l.take l.length ++ [s] := by rw [List.drop_length, List.append_nil]
      have Hfin := Lib.hid hfin
      clear hfin
      by_cases hck : c = l.length
      · subst hck
        have hdl : (l.drop l.length).length = l.length - l.length := List.length_drop
        have hs4 := Hb4.out.size
        go_wp2_with (at_builtin; refine wpList_append_Own strC (M := M0) (B := w.heap.size) (l := L4) (l' := l.drop l.length) TStrs rfl (.tmp 32) (.tmp 35) rfl (v := .slice A4 L4.length c4) rfl own4 rfl (hc4 _ _ (by unfold maxLen; omega)) ?c1 ?d1 hs4 ?_)
        case c1 => unfold maxLen; omega
        case d1 => omega
        intro A5 c5 L5 w5 hL5 own5 hb5 _ _
        go_wp2
        go_ret
        exact ⟨A5, c5, L5, rfl, Lib.hid (by rw [hL5.out, hL4.out, hL.out, Hins.out, Hfin.out]), own5, Hb4.out.trans hb5⟩
      · have hdl : (l.drop l.length).length = l.length - l.length := List.length_drop
        have hs4 := Hb4.out.size
        go_wp2_with (at_builtin; refine wpList_append_Own strC (M := M0) (B := w.heap.size) (l := L4) (l' := l.drop l.length) TStrs rfl (.tmp 32) (.tmp 35) rfl (v := .slice A4 L4.length c4) rfl own4 rfl (hc4 _ _ (by unfold maxLen; omega)) ?c1 ?d1 hs4 ?_)
        case c1 => unfold maxLen; omega
        case d1 => omega
        intro A5 c5 L5 w5 hL5 own5 hb5 _ _
        go_wp2
        go_ret
        exact ⟨A5, c5, L5, rfl, Lib.hid (by rw [hL5.out, hL4.out, hL.out, Hins.out, Hfin.out]), own5, Hb4.out.trans hb5⟩
end Go.Proofs.YtfjpedgddgbelaaGreatDoor
/-
  The reference: Ints, SamePostings, SameIndex.
-/
namespace Go.Proofs.YtfjpedgddgbelaaGreatDoor
open Go.RowKit
set_option linter.unusedVariables false
theorem take_get' {α : Type} (l : List α) (k : Nat) (h : k < l.length) : l.take (k + 1) = l.take k ++ [l[k]] := List.take_succ_eq_append_getElem h
theorem differ_at {α : Type} {l l' : List α} {k : Nat} (h : k < l.length) (h' : k < l'.length) (e : l[k] ≠ l'[k]) : l ≠ l' := fun h2 => by subst h2; exact e rfl
theorem same_end {α : Type} {l l' : List α} (hl : l.length = l'.length) (h : l.take l.length = l'.take l.length) : l = l' := by
  rw [List.take_length, List.take_of_length_le (by omega)] at h; exact h
set_option maxHeartbeats 1000000 in
theorem ints_ok (v v' : Value) (l l' : List Int) (w : World) (h : SlR intC M0 w v l) (h' : SlR intC M0 w v' l') : Calls Tryz.prog 35 #[v, v'] w fun e w' => e = .returned (.bool (l == l')) ∧ Below w.heap.size w w' := by
  obtain ⟨A, c, rfl, _, _⟩ := h.form
  obtain ⟨A', c', rfl, _, _⟩ := h'.form
  obtain ⟨hlc, hcm⟩ := h.lenM
  obtain ⟨hlc', hcm'⟩ := h'.lenM
  by_cases hl : l.length = l'.length
  · have hl' : ((l.length : Int) != (l'.length : Int)) = false := by simp [hl]
    have Hl := Lib.hid hl
    clear hl
    go_enter Tryz.func35, Tryz.ntmps35
    go_wp2
    go_loopw [5] (fun i wr => ∃ k : Nat, k ≤ l.length ∧ i = .int .i64 k ∧ Hid (l.take k = l'.take k) ∧ Below w.heap.size w wr) (fun i _ => l.length - (intOf i).toNat)
    case atStart => exact ⟨0, Nat.zero_le _, rfl, Lib.hid rfl, Below.refl _ _⟩
    case round =>
      obtain ⟨k, hk, rfl, hpre, hb⟩ := hrel
      by_cases hlt : k < l.length
      · have hlt' : k < l'.length := by have := Hl.out; omega
        obtain ⟨b, off, rfl, _, _, q0, _, _⟩ := (h.ext hb).intAt hlt
        obtain ⟨b', off', rfl, _, _, p0, _, _⟩ := (h'.ext hb).intAt hlt'
        obtain ⟨s, hx⟩ : ∃ x, x = l[k] := ⟨_, rfl⟩
        obtain ⟨s', hx'⟩ : ∃ x, x = l'[k] := ⟨_, rfl⟩
        rw [← hx] at q0
        rw [← hx'] at p0
        obtain ⟨t, ht⟩ : ∃ t, (s == s') = t := ⟨_, rfl⟩
        have Hx := Lib.hid hx; have Hx' := Lib.hid hx'
        clear hx hx'
        have hi1 : (k : Int) < (l.length : Int) := by omega
        have hi2 : (k : Int) < (l'.length : Int) := by omega
        cases t with
        | true =>
          have hnn : (s != s') = false := by rw [bne, ht]; rfl
          go_wp2
          go_quiet (fail)
          go_wp2
          go_roundw
          case rel => exact ⟨k + 1, by omega, by go_num, Lib.hid (by rw [take_get' l k hlt, take_get' l' k hlt', hpre.out, ← Hx.out, ← Hx'.out, eq_of_beq ht]), hb.trans (below_drewN' _ _ _)⟩
          case measure => simp [intOf]; omega
        | false =>
          have hnn : (s != s') = true := by rw [bne, ht]; rfl
          go_wp2
          go_quiet (fail)
          go_wp2
          go_ret
          have hne : (l == l') = false := by
            rw [beq_eq_false_iff_ne]
            intro e
            subst e
            rw [Hx.out, Hx'.out] at ht
            simp at ht
          exact ⟨ret_bool (by rw [hne]), hb.trans (below_drewN' _ _ _)⟩
      · have he : k = l.length := by omega
        subst he
        go_wp2
        go_ret
        refine ⟨ret_bool ?_, hb⟩
        have hp := hpre.out
        rw [List.take_length, List.take_of_length_le (by have := Hl.out; omega)] at hp
        rw [hp]; simp
  · have hl' : ((l.length : Int) != (l'.length : Int)) = true := by simp; omega
    have hne : (l == l') = false := by simp; intro h; exact hl (by rw [h])
    rw [hne]
    go_enter Tryz.func35, Tryz.ntmps35
    go_wp2
    go_ret
    exact ⟨rfl, Below.refl _ _⟩

set_option maxRecDepth 20000 in
set_option maxHeartbeats 4000000 in
theorem samePost_ok (v v' : Value) (l l' : List Ix.Post) (w : World) (h : SlR postC M0 w v l) (h' : SlR postC M0 w v' l') : Calls Tryz.prog 28 #[v, v'] w fun e w' => e = .returned (.bool (l == l')) ∧ Below w.heap.size w w' := by
  obtain ⟨A, c, rfl, _, _⟩ := h.form
  obtain ⟨A', c', rfl, _, _⟩ := h'.form
  obtain ⟨hlc, hcm⟩ := h.lenM
  obtain ⟨hlc', hcm'⟩ := h'.lenM
  by_cases hl : l.length = l'.length
  · have hl' : ((l.length : Int) != (l'.length : Int)) = false := by simp [hl]
    have Hl := Lib.hid hl
    clear hl
    go_enter Tryz.func28, Tryz.ntmps28
    go_wp2
    go_loopw [5] (fun i wr => ∃ k : Nat, k ≤ l.length ∧ i = .int .i64 k ∧ Hid (l.take k = l'.take k) ∧ Below w.heap.size w wr) (fun i _ => l.length - (intOf i).toNat)
    case atStart => exact ⟨0, Nat.zero_le _, rfl, Lib.hid rfl, Below.refl _ _⟩
    case round =>
      obtain ⟨k, hk, rfl, hpre, hb⟩ := hrel
      by_cases hlt : k < l.length
      · have hlt' : k < l'.length := by have := Hl.out; omega
        obtain ⟨b, off, A2, c2, rfl, _, _, q0, q1, _, _, hq⟩ := (h.ext hb).postAt hlt
        obtain ⟨b', off', A3, c3, rfl, _, _, p0, p1, _, _, hp⟩ := (h'.ext hb).postAt hlt'
        obtain ⟨⟨i1, s1⟩, hx⟩ : ∃ x, x = l[k] := ⟨_, rfl⟩
        obtain ⟨⟨i2, s2⟩, hx'⟩ : ∃ x, x = l'[k] := ⟨_, rfl⟩
        rw [← hx] at q0 q1 hq
        rw [← hx'] at p0 p1 hp
        dsimp only at q0 q1 hq p0 p1 hp
        have Hx := Lib.hid hx; have Hx' := Lib.hid hx'
        clear hx hx'
        have hi1 : (k : Int) < (l.length : Int) := by omega
        have hi2 : (k : Int) < (l'.length : Int) := by omega
        have hi0 : (0 : Int) ≤ (k : Int) := by omega
        have hkw : IntKind.i64.wrap (k : Int) = (k : Int) := IntWalk.i64_in _ (by omega)
        by_cases he : i1 = i2
        · subst he
          obtain ⟨t, ht⟩ : ∃ t, (s1 == s2) = t := ⟨_, rfl⟩
          have hcl := fun V (hbV : Below wr.heap.size wr V) => ints_ok (.slice A2 s1.length c2) (.slice A3 s2.length c3) s1 s2 V (hq.ext hbV) (hp.ext hbV)
          rw [ht] at hcl
          have hSS : ∀ W', Below wr.heap.size wr W' → W'.cell? ⟨b, off + k * 2, none⟩ = some (.int .i64 i1) ∧ W'.cell? ⟨b, off + k * 2 + 1, none⟩ = some (.slice A2 s1.length c2) ∧ W'.cell? ⟨b', off' + k * 2, none⟩ = some (.int .i64 i1) ∧ W'.cell? ⟨b', off' + k * 2 + 1, none⟩ = some (.slice A3 s2.length c3) := fun W' hb => ⟨cell_ext hb q0, cell_ext hb q1, cell_ext hb p0, cell_ext hb p1⟩
          have HS := Lib.hid hSS; have Hcl := Lib.hid hcl
          have hS := HS.out _ (below_drewN' wr.heap.size wr 1)
          clear hSS hcl q0 q1 p0 p1 hq hp
          go_wp2_with fail
          refine wp_region_D (fun W => W.cell? ⟨b, off + k * 2, none⟩ = some (.int .i64 i1) ∧ W.cell? ⟨b, off + k * 2 + 1, none⟩ = some (.slice A2 s1.length c2) ∧ W.cell? ⟨b', off' + k * 2, none⟩ = some (.int .i64 i1) ∧ W.cell? ⟨b', off' + k * 2 + 1, none⟩ = some (.slice A3 s2.length c3)) (fun _ => false) (by kernel_rfl) ?_
          change anyD _ _ _ _ _ _ _ _ _ (wr.drewN 1)
          have hbV := below_drewN' wr.heap.size wr 1
          generalize wr.drewN 1 = V0 at hS hbV ⊢
          (refine anyD_light (i := 0) (v := ?_) rfl (by kernel_rfl) (by kernel_rfl) (by kernel_rfl) (by kernel_rfl) (by kernel_rfl) (fun _ _ _ h => h) (.inl ⟨by kernel_rfl, fun W9 hW9 => ?_⟩) hS ?_; rotate_left; · (obtain ⟨hw0, hw1, hw2, hw3⟩ := hW9; go_simp; rfl))
          (refine anyD_light (i := 1) (v := ?_) rfl (by kernel_rfl) (by kernel_rfl) (by kernel_rfl) (by kernel_rfl) (by kernel_rfl) (fun _ _ _ h => h) (.inl ⟨by kernel_rfl, fun W9 hW9 => ?_⟩) hS ?_; rotate_left; · (obtain ⟨hw0, hw1, hw2, hw3⟩ := hW9; go_simp; rfl))
          (refine anyD_light (i := 2) (v := ?_) rfl (by kernel_rfl) (by kernel_rfl) (by kernel_rfl) (by kernel_rfl) (by kernel_rfl) (fun _ _ _ h => h) (.inl ⟨by kernel_rfl, fun W9 hW9 => ?_⟩) hS ?_; rotate_left; · (obtain ⟨hw0, hw1, hw2, hw3⟩ := hW9; go_simp; rfl))
          (refine anyD_light (i := 3) (v := ?_) rfl (by kernel_rfl) (by kernel_rfl) (by kernel_rfl) (by kernel_rfl) (by kernel_rfl) (fun _ _ _ h => h) (.inl ⟨by kernel_rfl, fun W9 hW9 => ?_⟩) hS ?_; rotate_left; · (obtain ⟨hw0, hw1, hw2, hw3⟩ := hW9; go_simp; rfl))
          (refine anyD_light (i := 4) (v := ?_) rfl (by kernel_rfl) (by kernel_rfl) (by kernel_rfl) (by kernel_rfl) (by kernel_rfl) (fun _ _ _ h => h) (.inl ⟨by kernel_rfl, fun W9 hW9 => ?_⟩) hS ?_; rotate_left; · (obtain ⟨hw0, hw1, hw2, hw3⟩ := hW9; go_simp; rfl))
          (refine anyD_light (i := 5) (v := ?_) rfl (by kernel_rfl) (by kernel_rfl) (by kernel_rfl) (by kernel_rfl) (by kernel_rfl) (fun _ _ _ h => h) (.inl ⟨by kernel_rfl, fun W9 hW9 => ?_⟩) hS ?_; rotate_left; · (obtain ⟨hw0, hw1, hw2, hw3⟩ := hW9; go_simp; rfl))
          go_simp
          (refine anyD_light (i := 6) (v := ?_) rfl (by kernel_rfl) (by kernel_rfl) (by kernel_rfl) (by kernel_rfl) (by kernel_rfl) (fun _ _ _ h => h) (.inl ⟨by kernel_rfl, fun W9 hW9 => ?_⟩) hS ?_; rotate_left; · (obtain ⟨hw0, hw1, hw2, hw3⟩ := hW9; go_simp; rfl))
          (refine anyD_light (i := 7) (v := ?_) rfl (by kernel_rfl) (by kernel_rfl) (by kernel_rfl) (by kernel_rfl) (by kernel_rfl) (fun _ _ _ h => h) (.inl ⟨by kernel_rfl, fun W9 hW9 => ?_⟩) hS ?_; rotate_left; · (obtain ⟨hw0, hw1, hw2, hw3⟩ := hW9; go_simp; rfl))
          (refine anyD_light (i := 8) (v := ?_) rfl (by kernel_rfl) (by kernel_rfl) (by kernel_rfl) (by kernel_rfl) (by kernel_rfl) (fun _ _ _ h => h) (.inl ⟨by kernel_rfl, fun W9 hW9 => ?_⟩) hS ?_; rotate_left; · (obtain ⟨hw0, hw1, hw2, hw3⟩ := hW9; go_simp; rfl))
          (refine anyD_light (i := 9) (v := ?_) rfl (by kernel_rfl) (by kernel_rfl) (by kernel_rfl) (by kernel_rfl) (by kernel_rfl) (fun _ _ _ h => h) (.inl ⟨by kernel_rfl, fun W9 hW9 => ?_⟩) hS ?_; rotate_left; · (obtain ⟨hw0, hw1, hw2, hw3⟩ := hW9; go_simp; rfl))
          (refine anyD_light (i := 10) (v := ?_) rfl (by kernel_rfl) (by kernel_rfl) (by kernel_rfl) (by kernel_rfl) (by kernel_rfl) (fun _ _ _ h => h) (.inl ⟨by kernel_rfl, fun W9 hW9 => ?_⟩) hS ?_; rotate_left; · (obtain ⟨hw0, hw1, hw2, hw3⟩ := hW9; go_simp; rfl))
          (refine anyD_light (i := 11) (v := ?_) rfl (by kernel_rfl) (by kernel_rfl) (by kernel_rfl) (by kernel_rfl) (by kernel_rfl) (fun _ _ _ h => h) (.inl ⟨by kernel_rfl, fun W9 hW9 => ?_⟩) hS ?_; rotate_left; · (obtain ⟨hw0, hw1, hw2, hw3⟩ := hW9; go_simp; rfl))
          go_simp
          (refine anyD_light (i := 12) (v := ?_) rfl (by kernel_rfl) (by kernel_rfl) (by kernel_rfl) (by kernel_rfl) (by kernel_rfl) (fun _ _ _ h => h) (.inl ⟨by kernel_rfl, fun W9 hW9 => ?_⟩) hS ?_; rotate_left; · (obtain ⟨hw0, hw1, hw2, hw3⟩ := hW9; go_simp; rfl))
          (refine anyD_light (i := 13) (v := ?_) rfl (by kernel_rfl) (by kernel_rfl) (by kernel_rfl) (by kernel_rfl) (by kernel_rfl) (fun _ _ _ h => h) (.inl ⟨by kernel_rfl, fun W9 hW9 => ?_⟩) hS ?_; rotate_left; · (obtain ⟨hw0, hw1, hw2, hw3⟩ := hW9; go_simp; rfl))
          (refine anyD_light (i := 14) (v := ?_) rfl (by kernel_rfl) (by kernel_rfl) (by kernel_rfl) (by kernel_rfl) (by kernel_rfl) (fun _ _ _ h => h) (.inl ⟨by kernel_rfl, fun W9 hW9 => ?_⟩) hS ?_; rotate_left; · (obtain ⟨hw0, hw1, hw2, hw3⟩ := hW9; go_simp; rfl))
          (refine anyD_light (i := 15) (v := ?_) rfl (by kernel_rfl) (by kernel_rfl) (by kernel_rfl) (by kernel_rfl) (by kernel_rfl) (fun _ _ _ h => h) (.inl ⟨by kernel_rfl, fun W9 hW9 => ?_⟩) hS ?_; rotate_left; · (obtain ⟨hw0, hw1, hw2, hw3⟩ := hW9; go_simp; rfl))
          (refine anyD_light (i := 16) (v := ?_) rfl (by kernel_rfl) (by kernel_rfl) (by kernel_rfl) (by kernel_rfl) (by kernel_rfl) (fun _ _ _ h => h) (.inl ⟨by kernel_rfl, fun W9 hW9 => ?_⟩) hS ?_; rotate_left; · (obtain ⟨hw0, hw1, hw2, hw3⟩ := hW9; go_simp; rfl))
          (refine anyD_light (i := 17) (v := ?_) rfl (by kernel_rfl) (by kernel_rfl) (by kernel_rfl) (by kernel_rfl) (by kernel_rfl) (fun _ _ _ h => h) (.inl ⟨by kernel_rfl, fun W9 hW9 => ?_⟩) hS ?_; rotate_left; · (obtain ⟨hw0, hw1, hw2, hw3⟩ := hW9; go_simp; rfl))
          go_simp
          (refine anyD_light (i := 18) (v := ?_) rfl (by kernel_rfl) (by kernel_rfl) (by kernel_rfl) (by kernel_rfl) (by kernel_rfl) (fun _ _ _ h => h) (.inl ⟨by kernel_rfl, fun W9 hW9 => ?_⟩) hS ?_; rotate_left; · (obtain ⟨hw0, hw1, hw2, hw3⟩ := hW9; go_simp; rfl))
          (refine anyD_light (i := 19) (v := ?_) rfl (by kernel_rfl) (by kernel_rfl) (by kernel_rfl) (by kernel_rfl) (by kernel_rfl) (fun _ _ _ h => h) (.inl ⟨by kernel_rfl, fun W9 hW9 => ?_⟩) hS ?_; rotate_left; · (obtain ⟨hw0, hw1, hw2, hw3⟩ := hW9; go_simp; rfl))
          (refine anyD_light (i := 20) (v := ?_) rfl (by kernel_rfl) (by kernel_rfl) (by kernel_rfl) (by kernel_rfl) (by kernel_rfl) (fun _ _ _ h => h) (.inl ⟨by kernel_rfl, fun W9 hW9 => ?_⟩) hS ?_; rotate_left; · (obtain ⟨hw0, hw1, hw2, hw3⟩ := hW9; go_simp; rfl))
          (refine anyD_light (i := 21) (v := ?_) rfl (by kernel_rfl) (by kernel_rfl) (by kernel_rfl) (by kernel_rfl) (by kernel_rfl) (fun _ _ _ h => h) (.inl ⟨by kernel_rfl, fun W9 hW9 => ?_⟩) hS ?_; rotate_left; · (obtain ⟨hw0, hw1, hw2, hw3⟩ := hW9; go_simp; rfl))
          go_simp
          refine anyD_oneG (i := 22) (by kernel_rfl) rfl rfl (fun K hK => ?_)
          have HK := Lib.hid hK
          clear hK
          unfold Oper.wp
          go_simp
          refine (Hcl.out V0 hbV).mono ?_
          rintro e w2 ⟨rfl, hb2⟩
          have hb12 : Below wr.heap.size wr w2 := hbV.trans (hb2.mono hbV.size)
          clear hS
          have hS := HS.out _ hb12
          refine HK.out _ _ (fun _ => hS) ?_
          clear HK
          (refine anyD_light (i := 23) (v := ?_) rfl (by kernel_rfl) (by kernel_rfl) (by kernel_rfl) (by kernel_rfl) (by kernel_rfl) (fun _ _ _ h => h) (.inl ⟨by kernel_rfl, fun W9 hW9 => ?_⟩) hS ?_; rotate_left; · (obtain ⟨hw0, hw1, hw2, hw3⟩ := hW9; go_simp; rfl))
          (refine anyD_light (i := 24) (v := ?_) rfl (by kernel_rfl) (by kernel_rfl) (by kernel_rfl) (by kernel_rfl) (by kernel_rfl) (fun _ _ _ h => h) (.inl ⟨by kernel_rfl, fun W9 hW9 => ?_⟩) hS ?_; rotate_left; · (obtain ⟨hw0, hw1, hw2, hw3⟩ := hW9; go_simp; rfl))
          go_simp
          refine anyD_done (by kernel_rfl) ?_ _
          have hbr := hb.trans (hb12.mono hb.size)
          clear hb12 hb2 hS
          cases t with
          | true =>
            go_wp2
            go_roundw
            case rel => exact ⟨k + 1, by omega, by go_num, Lib.hid (by rw [take_get' l k hlt, take_get' l' k hlt', hpre.out, ← Hx.out, ← Hx'.out, eq_of_beq ht]), hbr⟩
            case measure => simp [intOf]; omega
          | false =>
            go_wp2
            go_ret
            have hne : (l == l') = false := by
              rw [beq_eq_false_iff_ne]
              refine differ_at hlt hlt' ?_
              rw [← Hx.out, ← Hx'.out]
              intro e
              injection e with _ e
              rw [e] at ht
              simp at ht
            exact ⟨ret_bool (by rw [hne]), hbr⟩
        · have hnn : (i1 != i2) = true := by simpa using he
          clear hq hp
          go_wp2
          go_quiet (fail)
          go_wp2
          go_ret
          have hne : (l == l') = false := by
            rw [beq_eq_false_iff_ne]
            refine differ_at hlt hlt' ?_
            rw [← Hx.out, ← Hx'.out]
            intro e
            injection e with e _
            exact he e
          exact ⟨ret_bool (by rw [hne]), hb.trans (below_drewN' _ _ _)⟩
      · have he : k = l.length := by omega
        subst he
        go_wp2
        go_ret
        refine ⟨ret_bool ?_, hb⟩
        rw [same_end Hl.out hpre.out]; simp
  · have hl' : ((l.length : Int) != (l'.length : Int)) = true := by simp; omega
    have hne : (l == l') = false := by simp; intro h; exact hl (by rw [h])
    rw [hne]
    go_enter Tryz.func28, Tryz.ntmps28
    go_wp2
    go_ret
    exact ⟨rfl, Below.refl _ _⟩
set_option maxRecDepth 20000 in
set_option maxHeartbeats 8000000 in
theorem sameIndex_ok (a b a' b' : Value) (x y : Ix.Idx) (w : World) (h0 : SlR intC M0 w a x.1) (h1 : SlR termC M0 w b x.2) (h0' : SlR intC M0 w a' y.1) (h1' : SlR termC M0 w b' y.2) : Calls Tryz.prog 25 #[.agg #[a, b], .agg #[a', b']] w fun e w' => e = .returned (.bool (x == y)) ∧ Below w.heap.size w w' := by
  obtain ⟨ids, ts⟩ := x
  obtain ⟨ids', ts'⟩ := y
  dsimp only at h0 h1 h0' h1'
  obtain ⟨A0, c0, rfl, _, _⟩ := h0.form
  obtain ⟨A1, c1, rfl, _, _⟩ := h1.form
  obtain ⟨A0', c0', rfl, _, _⟩ := h0'.form
  obtain ⟨A1', c1', rfl, _, _⟩ := h1'.form
  obtain ⟨hlc, hcm⟩ := h1.lenM
  obtain ⟨hlc', hcm'⟩ := h1'.lenM
  obtain ⟨W, hW, hs, hal, kb, kf⟩ := two_new w (.slice A0 ids.length c0) (.slice A1 ts.length c1) 25 (.slice A0' ids'.length c0') (.slice A1' ts'.length c1') 25
  obtain ⟨g0, hg0⟩ : ∃ g, w.heap.size = g := ⟨_, rfl⟩
  obtain ⟨g1, hg1⟩ : ∃ g, w.heap.size + 1 = g := ⟨_, rfl⟩
  rw [hg1] at kf
  rw [hg0] at kb hg1
  have hSS : ∀ W', Below W.heap.size W W' → W'.cell? ⟨g0, 0, none⟩ = some (.slice A0 ids.length c0) ∧ W'.cell? ⟨g0, 1, none⟩ = some (.slice A1 ts.length c1) ∧ W'.cell? ⟨g1, 0, none⟩ = some (.slice A0' ids'.length c0') ∧ W'.cell? ⟨g1, 1, none⟩ = some (.slice A1' ts'.length c1') := fun W' hb => ⟨(kb.ext hb).two.1, (kb.ext hb).two.2.1, (kf.ext hb).two.1, (kf.ext hb).two.2.1⟩
  have HS := Lib.hid hSS
  have hin := ints_ok (.slice A0 ids.length c0) (.slice A0' ids'.length c0') ids ids' W (h0.ext hal) (h0'.ext hal)
  obtain ⟨ti, hti⟩ : ∃ t, (ids == ids') = t := ⟨_, rfl⟩
  rw [hti] at hin
  have h1 := h1.ext hal
  have h1' := h1'.ext hal
  have Hin := Lib.hid hin
  have hSw := HS.out _ (Below.refl _ _)
  clear hin hSS h0 h0'
  obtain ⟨q0, q1, r0, r1⟩ := hSw
  rw [← hW, ← hg0] at q0 q1
  rw [← hW, ← hg1, ← hg0] at r0 r1
  have HW := Lib.hid (And.intro hW (And.intro hg0 hg1))
  clear hW hg0 hg1 hs kb kf
  go_enter Tryz.func25, Tryz.ntmps25
  go_wp2_with fail
  rw [HW.out.1, HW.out.2.1, HW.out.2.2]
  refine Hin.out.mono ?_
  rintro e w1 ⟨rfl, hb1⟩
  clear q0 q1 r0 r1
  obtain ⟨q0, q1, r0, r1⟩ := HS.out _ hb1
  have Hti := Lib.hid hti
  clear hti
  cases ti with
  | false =>
    go_wp2
    go_ret
    have hne : ((ids, ts) == (ids', ts')) = false := by
      rw [beq_eq_false_iff_ne]; intro e; injection e with e _; have := Hti.out; rw [e] at this; simp at this
    exact ⟨ret_bool (by rw [hne]), below2 hal hb1⟩
  | true =>
    by_cases hl : ts.length = ts'.length
    · have hl' : ((ts.length : Int) != (ts'.length : Int)) = false := by simp [hl]
      have Hl := Lib.hid hl
      clear hl
      go_wp2
      go_loopw [5] (fun i wr => ∃ k : Nat, k ≤ ts.length ∧ i = .int .i64 k ∧ Hid (ts.take k = ts'.take k) ∧ Below W.heap.size W wr) (fun i _ => ts.length - (intOf i).toNat)
      case atStart => exact ⟨0, Nat.zero_le _, rfl, Lib.hid rfl, hb1⟩
      case round =>
        obtain ⟨k, hk, rfl, hpre, hb⟩ := hrel
        clear q0 q1 r0 r1
        obtain ⟨q0, q1, r0, r1⟩ := HS.out _ hb
        by_cases hlt : k < ts.length
        · have hlt' : k < ts'.length := by have := Hl.out; omega
          obtain ⟨b, off, A2, c2, rfl, _, _, p0, p1, _, hq⟩ := (h1.ext hb).termAt hlt
          obtain ⟨b', off', A3, c3, rfl, _, _, s0, s1, _, hp⟩ := (h1'.ext hb).termAt hlt'
          obtain ⟨⟨i1, l1⟩, hx⟩ : ∃ x, x = ts[k] := ⟨_, rfl⟩
          obtain ⟨⟨i2, l2⟩, hx'⟩ : ∃ x, x = ts'[k] := ⟨_, rfl⟩
          rw [← hx] at p0 p1 hq
          rw [← hx'] at s0 s1 hp
          dsimp only at p0 p1 hq s0 s1 hp
          have Hx := Lib.hid hx; have Hx' := Lib.hid hx'
          clear hx hx'
          have hi1 : (k : Int) < (ts.length : Int) := by omega
          have hi2 : (k : Int) < (ts'.length : Int) := by omega
          have hi0 : (0 : Int) ≤ (k : Int) := by omega
          have hkw : IntKind.i64.wrap (k : Int) = (k : Int) := IntWalk.i64_in _ (by omega)
          by_cases he : i1 = i2
          · subst he
            obtain ⟨t, ht⟩ : ∃ t, (l1 == l2) = t := ⟨_, rfl⟩
            have hcl := fun V (hbV : Below wr.heap.size wr V) => samePost_ok (.slice A2 l1.length c2) (.slice A3 l2.length c3) l1 l2 V (hq.ext hbV) (hp.ext hbV)
            rw [ht] at hcl
            have hSS : ∀ W', Below wr.heap.size wr W' → W'.cell? ⟨b, off + k * 2, none⟩ = some (.string (bs i1)) ∧ W'.cell? ⟨b, off + k * 2 + 1, none⟩ = some (.slice A2 l1.length c2) ∧ W'.cell? ⟨b', off' + k * 2, none⟩ = some (.string (bs i1)) ∧ W'.cell? ⟨b', off' + k * 2 + 1, none⟩ = some (.slice A3 l2.length c3) ∧ W'.cell? ⟨g0, 1, none⟩ = some (.slice (some ⟨b, off, none⟩) ts.length c1) ∧ W'.cell? ⟨g1, 1, none⟩ = some (.slice (some ⟨b', off', none⟩) ts'.length c1') := fun W' hb => ⟨cell_ext hb p0, cell_ext hb p1, cell_ext hb s0, cell_ext hb s1, cell_ext hb q1, cell_ext hb r1⟩
            have HS2 := Lib.hid hSS; have Hcl := Lib.hid hcl
            have hS := HS2.out _ (below_drewN' wr.heap.size wr 1)
            clear hSS hcl p0 p1 s0 s1 hq hp
            go_wp2_with fail
            clear q0 q1 r0 r1
            refine wp_region_D (fun W => W.cell? ⟨b, off + k * 2, none⟩ = some (.string (bs i1)) ∧ W.cell? ⟨b, off + k * 2 + 1, none⟩ = some (.slice A2 l1.length c2) ∧ W.cell? ⟨b', off' + k * 2, none⟩ = some (.string (bs i1)) ∧ W.cell? ⟨b', off' + k * 2 + 1, none⟩ = some (.slice A3 l2.length c3) ∧ W.cell? ⟨g0, 1, none⟩ = some (.slice (some ⟨b, off, none⟩) ts.length c1) ∧ W.cell? ⟨g1, 1, none⟩ = some (.slice (some ⟨b', off', none⟩) ts'.length c1')) (fun _ => false) (by kernel_rfl) ?_
            change anyD _ _ _ _ _ _ _ _ _ (wr.drewN 1)
            have hbV := below_drewN' wr.heap.size wr 1
            generalize wr.drewN 1 = V0 at hS hbV ⊢
            (refine anyD_light (i := 0) (v := ?_) rfl (by kernel_rfl) (by kernel_rfl) (by kernel_rfl) (by kernel_rfl) (by kernel_rfl) (fun _ _ _ h => h) (.inl ⟨by kernel_rfl, fun W9 hW9 => ?_⟩) hS ?_; rotate_left; · (obtain ⟨hw0, hw1, hw2, hw3, hw4, hw5⟩ := hW9; go_simp; rfl))
            (refine anyD_light (i := 1) (v := ?_) rfl (by kernel_rfl) (by kernel_rfl) (by kernel_rfl) (by kernel_rfl) (by kernel_rfl) (fun _ _ _ h => h) (.inl ⟨by kernel_rfl, fun W9 hW9 => ?_⟩) hS ?_; rotate_left; · (obtain ⟨hw0, hw1, hw2, hw3, hw4, hw5⟩ := hW9; go_simp; rfl))
            (refine anyD_light (i := 2) (v := ?_) rfl (by kernel_rfl) (by kernel_rfl) (by kernel_rfl) (by kernel_rfl) (by kernel_rfl) (fun _ _ _ h => h) (.inl ⟨by kernel_rfl, fun W9 hW9 => ?_⟩) hS ?_; rotate_left; · (obtain ⟨hw0, hw1, hw2, hw3, hw4, hw5⟩ := hW9; go_simp; rfl))
            (refine anyD_light (i := 3) (v := ?_) rfl (by kernel_rfl) (by kernel_rfl) (by kernel_rfl) (by kernel_rfl) (by kernel_rfl) (fun _ _ _ h => h) (.inl ⟨by kernel_rfl, fun W9 hW9 => ?_⟩) hS ?_; rotate_left; · (obtain ⟨hw0, hw1, hw2, hw3, hw4, hw5⟩ := hW9; go_simp; rfl))
            (refine anyD_light (i := 4) (v := ?_) rfl (by kernel_rfl) (by kernel_rfl) (by kernel_rfl) (by kernel_rfl) (by kernel_rfl) (fun _ _ _ h => h) (.inl ⟨by kernel_rfl, fun W9 hW9 => ?_⟩) hS ?_; rotate_left; · (obtain ⟨hw0, hw1, hw2, hw3, hw4, hw5⟩ := hW9; go_simp; rfl))
            (refine anyD_light (i := 5) (v := ?_) rfl (by kernel_rfl) (by kernel_rfl) (by kernel_rfl) (by kernel_rfl) (by kernel_rfl) (fun _ _ _ h => h) (.inl ⟨by kernel_rfl, fun W9 hW9 => ?_⟩) hS ?_; rotate_left; · (obtain ⟨hw0, hw1, hw2, hw3, hw4, hw5⟩ := hW9; go_simp; rfl))
            go_simp
            (refine anyD_light (i := 6) (v := ?_) rfl (by kernel_rfl) (by kernel_rfl) (by kernel_rfl) (by kernel_rfl) (by kernel_rfl) (fun _ _ _ h => h) (.inl ⟨by kernel_rfl, fun W9 hW9 => ?_⟩) hS ?_; rotate_left; · (obtain ⟨hw0, hw1, hw2, hw3, hw4, hw5⟩ := hW9; go_simp; rfl))
            (refine anyD_light (i := 7) (v := ?_) rfl (by kernel_rfl) (by kernel_rfl) (by kernel_rfl) (by kernel_rfl) (by kernel_rfl) (fun _ _ _ h => h) (.inl ⟨by kernel_rfl, fun W9 hW9 => ?_⟩) hS ?_; rotate_left; · (obtain ⟨hw0, hw1, hw2, hw3, hw4, hw5⟩ := hW9; go_simp; rfl))
            (refine anyD_light (i := 8) (v := ?_) rfl (by kernel_rfl) (by kernel_rfl) (by kernel_rfl) (by kernel_rfl) (by kernel_rfl) (fun _ _ _ h => h) (.inl ⟨by kernel_rfl, fun W9 hW9 => ?_⟩) hS ?_; rotate_left; · (obtain ⟨hw0, hw1, hw2, hw3, hw4, hw5⟩ := hW9; go_simp; rfl))
            (refine anyD_light (i := 9) (v := ?_) rfl (by kernel_rfl) (by kernel_rfl) (by kernel_rfl) (by kernel_rfl) (by kernel_rfl) (fun _ _ _ h => h) (.inl ⟨by kernel_rfl, fun W9 hW9 => ?_⟩) hS ?_; rotate_left; · (obtain ⟨hw0, hw1, hw2, hw3, hw4, hw5⟩ := hW9; go_simp; rfl))
            (refine anyD_light (i := 10) (v := ?_) rfl (by kernel_rfl) (by kernel_rfl) (by kernel_rfl) (by kernel_rfl) (by kernel_rfl) (fun _ _ _ h => h) (.inl ⟨by kernel_rfl, fun W9 hW9 => ?_⟩) hS ?_; rotate_left; · (obtain ⟨hw0, hw1, hw2, hw3, hw4, hw5⟩ := hW9; go_simp; rfl))
            (refine anyD_light (i := 11) (v := ?_) rfl (by kernel_rfl) (by kernel_rfl) (by kernel_rfl) (by kernel_rfl) (by kernel_rfl) (fun _ _ _ h => h) (.inl ⟨by kernel_rfl, fun W9 hW9 => ?_⟩) hS ?_; rotate_left; · (obtain ⟨hw0, hw1, hw2, hw3, hw4, hw5⟩ := hW9; go_simp; rfl))
            go_simp
            (refine anyD_light (i := 12) (v := ?_) rfl (by kernel_rfl) (by kernel_rfl) (by kernel_rfl) (by kernel_rfl) (by kernel_rfl) (fun _ _ _ h => h) (.inl ⟨by kernel_rfl, fun W9 hW9 => ?_⟩) hS ?_; rotate_left; · (obtain ⟨hw0, hw1, hw2, hw3, hw4, hw5⟩ := hW9; go_simp; rfl))
            (refine anyD_light (i := 13) (v := ?_) rfl (by kernel_rfl) (by kernel_rfl) (by kernel_rfl) (by kernel_rfl) (by kernel_rfl) (fun _ _ _ h => h) (.inl ⟨by kernel_rfl, fun W9 hW9 => ?_⟩) hS ?_; rotate_left; · (obtain ⟨hw0, hw1, hw2, hw3, hw4, hw5⟩ := hW9; go_simp; rfl))
            (refine anyD_light (i := 14) (v := ?_) rfl (by kernel_rfl) (by kernel_rfl) (by kernel_rfl) (by kernel_rfl) (by kernel_rfl) (fun _ _ _ h => h) (.inl ⟨by kernel_rfl, fun W9 hW9 => ?_⟩) hS ?_; rotate_left; · (obtain ⟨hw0, hw1, hw2, hw3, hw4, hw5⟩ := hW9; go_simp; rfl))
            (refine anyD_light (i := 15) (v := ?_) rfl (by kernel_rfl) (by kernel_rfl) (by kernel_rfl) (by kernel_rfl) (by kernel_rfl) (fun _ _ _ h => h) (.inl ⟨by kernel_rfl, fun W9 hW9 => ?_⟩) hS ?_; rotate_left; · (obtain ⟨hw0, hw1, hw2, hw3, hw4, hw5⟩ := hW9; go_simp; rfl))
            (refine anyD_light (i := 16) (v := ?_) rfl (by kernel_rfl) (by kernel_rfl) (by kernel_rfl) (by kernel_rfl) (by kernel_rfl) (fun _ _ _ h => h) (.inl ⟨by kernel_rfl, fun W9 hW9 => ?_⟩) hS ?_; rotate_left; · (obtain ⟨hw0, hw1, hw2, hw3, hw4, hw5⟩ := hW9; go_simp; rfl))
            (refine anyD_light (i := 17) (v := ?_) rfl (by kernel_rfl) (by kernel_rfl) (by kernel_rfl) (by kernel_rfl) (by kernel_rfl) (fun _ _ _ h => h) (.inl ⟨by kernel_rfl, fun W9 hW9 => ?_⟩) hS ?_; rotate_left; · (obtain ⟨hw0, hw1, hw2, hw3, hw4, hw5⟩ := hW9; go_simp; rfl))
            go_simp
            (refine anyD_light (i := 18) (v := ?_) rfl (by kernel_rfl) (by kernel_rfl) (by kernel_rfl) (by kernel_rfl) (by kernel_rfl) (fun _ _ _ h => h) (.inl ⟨by kernel_rfl, fun W9 hW9 => ?_⟩) hS ?_; rotate_left; · (obtain ⟨hw0, hw1, hw2, hw3, hw4, hw5⟩ := hW9; go_simp; rfl))
            (refine anyD_light (i := 19) (v := ?_) rfl (by kernel_rfl) (by kernel_rfl) (by kernel_rfl) (by kernel_rfl) (by kernel_rfl) (fun _ _ _ h => h) (.inl ⟨by kernel_rfl, fun W9 hW9 => ?_⟩) hS ?_; rotate_left; · (obtain ⟨hw0, hw1, hw2, hw3, hw4, hw5⟩ := hW9; go_simp; rfl))
            (refine anyD_light (i := 20) (v := ?_) rfl (by kernel_rfl) (by kernel_rfl) (by kernel_rfl) (by kernel_rfl) (by kernel_rfl) (fun _ _ _ h => h) (.inl ⟨by kernel_rfl, fun W9 hW9 => ?_⟩) hS ?_; rotate_left; · (obtain ⟨hw0, hw1, hw2, hw3, hw4, hw5⟩ := hW9; go_simp; rfl))
            (refine anyD_light (i := 21) (v := ?_) rfl (by kernel_rfl) (by kernel_rfl) (by kernel_rfl) (by kernel_rfl) (by kernel_rfl) (fun _ _ _ h => h) (.inl ⟨by kernel_rfl, fun W9 hW9 => ?_⟩) hS ?_; rotate_left; · (obtain ⟨hw0, hw1, hw2, hw3, hw4, hw5⟩ := hW9; go_simp; rfl))
            (refine anyD_light (i := 22) (v := ?_) rfl (by kernel_rfl) (by kernel_rfl) (by kernel_rfl) (by kernel_rfl) (by kernel_rfl) (fun _ _ _ h => h) (.inl ⟨by kernel_rfl, fun W9 hW9 => ?_⟩) hS ?_; rotate_left; · (obtain ⟨hw0, hw1, hw2, hw3, hw4, hw5⟩ := hW9; go_simp; rfl))
            (refine anyD_light (i := 23) (v := ?_) rfl (by kernel_rfl) (by kernel_rfl) (by kernel_rfl) (by kernel_rfl) (by kernel_rfl) (fun _ _ _ h => h) (.inl ⟨by kernel_rfl, fun W9 hW9 => ?_⟩) hS ?_; rotate_left; · (obtain ⟨hw0, hw1, hw2, hw3, hw4, hw5⟩ := hW9; go_simp; rfl))
            go_simp
            (refine anyD_light (i := 24) (v := ?_) rfl (by kernel_rfl) (by kernel_rfl) (by kernel_rfl) (by kernel_rfl) (by kernel_rfl) (fun _ _ _ h => h) (.inl ⟨by kernel_rfl, fun W9 hW9 => ?_⟩) hS ?_; rotate_left; · (obtain ⟨hw0, hw1, hw2, hw3, hw4, hw5⟩ := hW9; go_simp; rfl))
            (refine anyD_light (i := 25) (v := ?_) rfl (by kernel_rfl) (by kernel_rfl) (by kernel_rfl) (by kernel_rfl) (by kernel_rfl) (fun _ _ _ h => h) (.inl ⟨by kernel_rfl, fun W9 hW9 => ?_⟩) hS ?_; rotate_left; · (obtain ⟨hw0, hw1, hw2, hw3, hw4, hw5⟩ := hW9; go_simp; rfl))
            go_simp
            refine anyD_oneG (i := 26) (by kernel_rfl) rfl rfl (fun K hK => ?_)
            have HK := Lib.hid hK
            clear hK
            unfold Oper.wp
            go_simp
            refine (Hcl.out V0 hbV).mono ?_
            rintro e w2 ⟨rfl, hb2⟩
            have hb12 : Below wr.heap.size wr w2 := hbV.trans (hb2.mono hbV.size)
            clear hS
            have hS := HS2.out _ hb12
            refine HK.out _ _ (fun _ => hS) ?_
            clear HK
            (refine anyD_light (i := 27) (v := ?_) rfl (by kernel_rfl) (by kernel_rfl) (by kernel_rfl) (by kernel_rfl) (by kernel_rfl) (fun _ _ _ h => h) (.inl ⟨by kernel_rfl, fun W9 hW9 => ?_⟩) hS ?_; rotate_left; · (obtain ⟨hw0, hw1, hw2, hw3, hw4, hw5⟩ := hW9; go_simp; rfl))
            (refine anyD_light (i := 28) (v := ?_) rfl (by kernel_rfl) (by kernel_rfl) (by kernel_rfl) (by kernel_rfl) (by kernel_rfl) (fun _ _ _ h => h) (.inl ⟨by kernel_rfl, fun W9 hW9 => ?_⟩) hS ?_; rotate_left; · (obtain ⟨hw0, hw1, hw2, hw3, hw4, hw5⟩ := hW9; go_simp; rfl))
            go_simp
            refine anyD_done (by kernel_rfl) ?_ _
            have hbr := hb.trans (hb12.mono hb.size)
            clear hb12 hb2 hS
            obtain ⟨q0, q1, r0, r1⟩ := HS.out _ hbr
            cases t with
            | true =>
              go_wp2
              go_roundw
              case rel => exact ⟨k + 1, by omega, by go_num, Lib.hid (by rw [take_get' ts k hlt, take_get' ts' k hlt', hpre.out, ← Hx.out, ← Hx'.out, eq_of_beq ht]), hbr⟩
              case measure => simp [intOf]; omega
            | false =>
              go_wp2
              go_ret
              have hne : ((ids, ts) == (ids', ts')) = false := by
                rw [beq_eq_false_iff_ne]
                intro e
                injection e with _ e
                refine differ_at hlt hlt' ?_ e
                rw [← Hx.out, ← Hx'.out]
                intro e
                injection e with _ e
                rw [e] at ht
                simp at ht
              exact ⟨ret_bool (by rw [hne]), hal.trans (hbr.mono hal.size)⟩
          · have hnn : (bs i1 == bs i2) = false := by rw [bs_beq, beq_eq_false_iff_ne]; exact he
            have hnn' : (bs i1 != bs i2) = true := by rw [bne, hnn]; rfl
            clear hq hp
            go_wp2
            go_quiet (fail)
            go_wp2
            go_ret
            have hne : ((ids, ts) == (ids', ts')) = false := by
              rw [beq_eq_false_iff_ne]
              intro e
              injection e with _ e
              refine differ_at hlt hlt' ?_ e
              rw [← Hx.out, ← Hx'.out]
              intro e
              injection e with e _
              exact he e
            exact ⟨ret_bool (by rw [hne]), hal.trans ((hb.trans (below_drewN' _ _ _)).mono hal.size)⟩
        · have he : k = ts.length := by omega
          subst he
          go_wp2
          go_ret
          refine ⟨ret_bool ?_, hal.trans (hb.mono hal.size)⟩
          rw [same_end Hl.out hpre.out, eq_of_beq Hti.out]; simp
    · have hl' : ((ts.length : Int) != (ts'.length : Int)) = true := by simp; omega
      have hne : ((ids, ts) == (ids', ts')) = false := by
        rw [beq_eq_false_iff_ne]; intro e; injection e with _ e; exact hl (by rw [e])
      go_wp2
      go_ret
      exact ⟨ret_bool (by rw [hne]), below2 hal hb1⟩
end Go.Proofs.YtfjpedgddgbelaaGreatDoor

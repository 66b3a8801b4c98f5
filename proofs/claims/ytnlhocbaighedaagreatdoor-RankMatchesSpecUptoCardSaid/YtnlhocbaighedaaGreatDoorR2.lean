/-
  Contracts and plain facts, one after another: Indexes: a text added, a text removed; plain; The index of texts, made at once, is the one to which they have been added one by one; plain; A store into a slice of the call's own. No program is named here; Lists of texts: HasText; Lists of texts: their type's numbers; Texts.
-/
import Derived.Test.YtnlhocbaighedaaGreatDoorR1
import Derived.Test.YtnlhocbaighedaaGreatDoorBase
import Derived.Laws.IdiomStrings
import Derived.IntWalk
import Derived.Outline
import Derived.Deep.QuietTactic
import Derived.BigQuiet
namespace Go.Proofs.YtnlhocbaighedaaGreatDoor
namespace Ix
set_option linter.unusedVariables false
def insId (ids : List Int) (id : Int) : List Int := ids.filter (fun n => decide (n < id)) ++ id :: ids.filter (fun n => decide (id < n))
def addF (x : Idx) (id : Int) (s : List Str) : Idx := (insId x.1 id, putAll id s 0 x.2)
def removeF (x : Idx) (id : Int) : Idx := (x.1.filter (fun n => !(n == id)), removeT id x.2)
theorem mem_insId {ids : List Int} {id n : Int} : n ∈ insId ids id ↔ n = id ∨ n ∈ ids := by
 unfold insId
 simp only [List.mem_append, List.mem_cons, List.mem_filter, decide_eq_true_eq]
 constructor
 ·rintro (⟨h, _⟩ | h | ⟨h, _⟩)
  ·exact .inr h
  ·exact .inl h
  ·exact .inr h
 ·rintro (h | h)
  ·exact .inr (.inl h)
  ·rcases Int.lt_trichotomy n id with e | e | e
   ·exact .inl ⟨h, e⟩
   ·exact .inr (.inl e)
   ·exact .inr (.inr ⟨h, e⟩)
theorem insId_sorted {ids : List Int} {id : Int} (h : ids.Pairwise (· < ·)) : (insId ids id).Pairwise (· < ·) := by
 unfold insId
 rw [List.pairwise_append]
 refine ⟨h.sublist List.filter_sublist, List.pairwise_cons.2 ⟨fun n hn => by simpa using (List.mem_filter.1 hn).2, h.sublist List.filter_sublist⟩, fun a ha b hb => ?_⟩
 have h1 : a < id := by simpa using (List.mem_filter.1 ha).2
 rcases List.mem_cons.1 hb with e | e
 ·rw [e]; exact h1
 ·have h2 : id < b := by simpa using (List.mem_filter.1 e).2
  omega
theorem filter_parts {ids : List Int} {id : Int} (hid : id ∉ ids) (h : ids.Pairwise (· < ·)) : ids.filter (fun n => decide (n < id)) ++ ids.filter (fun n => decide (id < n)) = ids := by
 induction ids with
 | nil => rfl
 | cons a r ih =>
  rw [List.pairwise_cons] at h
  have hne : a ≠ id := fun e => hid (by rw [e]; exact List.mem_cons_self)
  have hr : id ∉ r := fun e => hid (List.mem_cons_of_mem _ e)
  by_cases ha : a < id
  ·have : ¬ id < a := by omega
   simp [ha, this, ih hr h.2]
  ·have ha2 : id < a := by omega
   have : r.filter (fun n => decide (n < id)) = [] := List.filter_eq_nil_iff.2 fun n hn => by have := h.1 n hn; simp; omega
   have h3 : r.filter (fun n => decide (id < n)) = r := List.filter_eq_self.2 fun n hn => by have := h.1 n hn; simp; omega
   simp [ha, ha2, this, h3]
theorem insId_len {ids : List Int} {id : Int} (hid : id ∉ ids) (h : ids.Pairwise (· < ·)) : (insId ids id).length = ids.length + 1 := by
 have := congrArg List.length (filter_parts hid h)
 rw [List.length_append] at this
 unfold insId
 rw [List.length_append, List.length_cons]
 omega
theorem sorted_ext {a b : List Int} (ha : a.Pairwise (· < ·)) (hb : b.Pairwise (· < ·)) (h : ∀ n, n ∈ a ↔ n ∈ b) : a = b := by
 refine List.Perm.eq_of_pairwise (le := fun x y => x < y) (fun x y _ _ h1 h2 => by omega) ha hb ?_
 exact (List.perm_ext_iff_of_nodup (ha.imp fun h => by omega) (hb.imp fun h => by omega)).2 h
/-! ### members and contents -/
theorem cont_mem {ts : List Term} (h : Wf ts) {t : Term} (ht : t ∈ ts) {p : Post} (hp : p ∈ t.2) : cont ts t.1 p.1 = p.2 := by
 unfold cont
 rw [Al.look_of_mem tot_str h.srt (show (t.1, t.2) ∈ ts from ht)]
 show (Al.look t.2 p.1).getD [] = _
 rw [Al.look_of_mem totI (h.post t ht).2.1 (show (p.1, p.2) ∈ t.2 from hp)]
 rfl
theorem mem_cont {ts : List Term} {w : Str} {i : Int} (h : cont ts w i ≠ []) : ∃ t ∈ ts, t.1 = w ∧ ∃ p ∈ t.2, p.1 = i ∧ p.2 = cont ts w i := by
 unfold cont at h ⊢
 cases hw : Al.look ts w with
 | none => rw [hw] at h; exact absurd rfl h
 | some ps =>
  rw [hw] at h
  simp only [Option.bind_some] at h ⊢
  cases hq : Al.look ps i with
  | none => rw [hq] at h; exact absurd rfl h
  | some q => exact ⟨_, Al.look_mem hw, rfl, _, Al.look_mem hq, rfl, rfl⟩
theorem occ_range (w : Str) : ∀ (s : List Str) (n : Nat), (occ w s n).Pairwise (· < ·) ∧ ∀ m ∈ occ w s n, (n : Int) ≤ m ∧ m < n + s.length
 | [], n => by simp [occ]
 | a :: s, n => by
  have ih := occ_range w s (n + 1)
  rw [occ]
  split
  ·refine ⟨List.pairwise_cons.2 ⟨fun m hm => by have := (ih.2 m hm).1; omega, ih.1⟩, fun m hm => ?_⟩
   rcases List.mem_cons.1 hm with e | e
   ·simp; omega
   ·have := ih.2 m e; simp; omega
  ·exact ⟨ih.1, fun m hm => by have := ih.2 m hm; simp; omega⟩
theorem occ_nil (w : Str) : ∀ (s : List Str) (n : Nat), occ w s n = [] ↔ w ∉ s
 | [], n => by simp [occ]
 | a :: s, n => by
  rw [occ]
  split
  ·rename_i e; simp [e]
  ·rename_i e
   rw [occ_nil w s (n + 1), List.mem_cons]
   simp only [not_or]
   exact ⟨fun h => ⟨fun e' => e e'.symm, h⟩, fun h => h.2⟩
theorem strange {x : Idx} (h : Canon x) {id : Int} (hid : id ∉ x.1) (w : Str) : cont x.2 w id = [] := by
 cases hc : cont x.2 w id with
 | nil => rfl
 | cons a r =>
  obtain ⟨t, ht, _, p, hp, e, _⟩ := mem_cont (ts := x.2) (w := w) (i := id) (by rw [hc]; simp)
  exact absurd (e ▸ ((h.post t ht).2.2 p hp).1) hid
theorem canon_add {x : Idx} (h : Canon x) {id : Int} {s : List Str} (h1 : 1 ≤ id ∧ id ≤ 1000000) (hid : id ∉ x.1) (hn : x.1.length < 300) (hs : ∀ w ∈ s, w ≠ [] ∧ w.length ≤ 8000) (hsl : s.length ≤ 1000000) (hm : (putAll id s 0 x.2).length ≤ 1000000) : Canon (addF x id s) := by
 have hwf := h.wf
 have hw' := Wf.putAll id s 0 hwf
 have hc := cont_putAll id s 0 hwf
 have key : ∀ t ∈ putAll id s 0 x.2, ∀ p ∈ t.2, (t.1 ≠ [] ∧ t.1.length ≤ 8000) ∧ p.1 ∈ insId x.1 id ∧ p.2.Pairwise (· < ·) ∧ ∀ n ∈ p.2, 0 ≤ n ∧ n ≤ 1000000 := by
  intro t ht p hp
  have e := cont_mem hw' ht hp
  have hne := (hw'.post t ht).2.2 p hp
  rw [hc] at e
  split at e
  ·rename_i hi
   rw [strange h hid, List.nil_append] at e
   rw [← e] at hne ⊢
   have hmem : t.1 ∈ s := Classical.byContradiction fun hno => hne ((occ_nil _ _ _).2 hno)
   have ho := occ_range t.1 s 0
   exact ⟨hs _ hmem, mem_insId.2 (.inl hi), ho.1, fun n hn => by have := ho.2 n hn; omega⟩
  ·rename_i hi
   rw [← e] at hne
   obtain ⟨t', ht', e1, p', hp', e2, e3⟩ := mem_cont hne
   have h2 := (h.post t' ht').2.2 p' hp'
   rw [e3, e] at h2
   exact ⟨by rw [← e1]; exact h.word t' ht', mem_insId.2 (.inr (e2 ▸ h2.1)), h2.2.2⟩
 refine ⟨by show (insId x.1 id).length ≤ 300; rw [insId_len hid h.ids]; omega, insId_sorted h.ids, fun n hn => ?_, hm, hw'.srt, fun t ht => ?_, fun t ht => ?_⟩
 ·rcases mem_insId.1 hn with e | e
  ·rw [e]; exact h1
  ·exact h.idr n e
 ·obtain ⟨hne, _, _⟩ := hw'.post t ht
  obtain ⟨p, r, e⟩ : ∃ p r, t.2 = p :: r := by cases h : t.2 with | nil => exact absurd h hne | cons p r => exact ⟨p, r, rfl⟩
  exact (key t ht p (by rw [e]; exact List.mem_cons_self)).1
 ·obtain ⟨hne, hsr, hno⟩ := hw'.post t ht
  exact ⟨hne, hsr, fun p hp => ⟨(key t ht p hp).2.1, hno p hp, (key t ht p hp).2.2⟩⟩
/-! ### the laws -/
/-! ### how many terms there are -/
/-- how many words are new -/
def fresh (ts : List Term) : List Str → List Str → Nat
 | _, [] => 0
 | seen, w :: s => (if Al.look ts w = none ∧ w ∉ seen then 1 else 0) + fresh ts (seen ++ [w]) s
end Ix
end Go.Proofs.YtnlhocbaighedaaGreatDoor
namespace Go.Proofs.YtnlhocbaighedaaGreatDoor
namespace Ix
set_option linter.unusedVariables false
/-- a word in its place among others -/
def insW (l : List Str) (s : Str) : List Str := l.takeWhile (fun a => ltS a s) ++ s :: l.dropWhile (fun a => ltS a s)
def putW (l : List Str) (s : Str) : List Str := if s ∈ l then l else insW l s
def wordsOf (ws : List Str) : List Str := ws.foldl putW []
abbrev Doc := Int × List Str
def postsOf (docs : List Doc) (w : Str) : List Post := docs.filterMap fun d => if occ w d.2 0 = [] then none else some (d.1, occ w d.2 0)
def madeF (docs : List Doc) : Idx := (docs.map fun d => d.1, (wordsOf (docs.flatMap fun d => d.2)).map fun w => (w, postsOf docs w))
def SortedW (l : List Str) : Prop := l.Pairwise fun a b => ltS a b = true
theorem insW_split {l : List Str} (h : SortedW l) (s : Str) : (∀ a ∈ l.takeWhile (fun a => ltS a s), ltS a s = true) ∧ (s ∉ l → ∀ a ∈ l.dropWhile (fun a => ltS a s), ltS s a = true) := by
 induction l with
 | nil => simp
 | cons b r ih =>
  have h0 := h
  unfold SortedW at h
  rw [List.pairwise_cons] at h
  rw [List.takeWhile_cons, List.dropWhile_cons]
  cases hb : ltS b s with
  | true =>
   simp only [if_true]
   obtain ⟨h1, h2⟩ := ih h.2
   refine ⟨fun a ha => ?_, fun hs a ha => h2 (fun e => hs (List.mem_cons_of_mem _ e)) a ha⟩
   rcases List.mem_cons.1 ha with e | e
   ·rw [e]; exact hb
   ·exact h1 a e
  | false =>
   simp only [Bool.false_eq_true, if_false]
   refine ⟨fun a ha => (by cases ha), fun hs a ha => ?_⟩
   have hsb : ltS s b = true := by
    rcases ltS_total s b with e | e | e
    ·exact e
    ·exact absurd (by rw [e]; exact List.mem_cons_self) hs
    ·rw [e] at hb; cases hb
   rcases List.mem_cons.1 ha with e | e
   ·rw [e]; exact hsb
   ·exact ltS_trans hsb (h.1 a e)
theorem putW_sorted {l : List Str} (h : SortedW l) (s : Str) : SortedW (putW l s) := by
 unfold putW
 split
 ·exact h
 ·rename_i hs
  obtain ⟨h1, h2⟩ := insW_split h s
  have hs' := h2 hs
  unfold SortedW insW
  have hl : (l.takeWhile (fun a => ltS a s) ++ l.dropWhile (fun a => ltS a s)).Pairwise fun a b => ltS a b = true := by rw [List.takeWhile_append_dropWhile]; exact h
  rw [List.pairwise_append] at hl ⊢
  refine ⟨hl.1, List.pairwise_cons.2 ⟨hs', hl.2.1⟩, fun a ha b hb => ?_⟩
  rcases List.mem_cons.1 hb with e | e
  ·rw [e]; exact h1 a ha
  ·exact hl.2.2 a ha b e
theorem mem_putW {l : List Str} {s a : Str} : a ∈ putW l s ↔ a = s ∨ a ∈ l := by
 unfold putW
 split
 ·rename_i hs
  exact ⟨.inr, fun h => h.elim (fun e => e ▸ hs) id⟩
 ·unfold insW
  have : a ∈ l ↔ a ∈ l.takeWhile (fun a => ltS a s) ++ l.dropWhile (fun a => ltS a s) := by rw [List.takeWhile_append_dropWhile]
  rw [this]
  simp only [List.mem_append, List.mem_cons]
  constructor <;> rintro (h | h | h) <;> simp [h]
theorem foldW (ws : List Str) : ∀ l, SortedW l → SortedW (ws.foldl putW l) ∧ ∀ a, a ∈ ws.foldl putW l ↔ a ∈ l ∨ a ∈ ws := by
 induction ws with
 | nil => intro l h; exact ⟨h, fun a => by simp⟩
 | cons w ws ih =>
  intro l h
  obtain ⟨h1, h2⟩ := ih (putW l w) (putW_sorted h w)
  refine ⟨h1, fun a => ?_⟩
  rw [List.foldl_cons, h2, mem_putW, List.mem_cons]
  constructor
  ·rintro ((h | h) | h) <;> simp [h]
  ·rintro (h | h | h) <;> simp [h]
theorem wordsOf_sorted (ws : List Str) : SortedW (wordsOf ws) := (foldW ws [] List.Pairwise.nil).1
theorem mem_wordsOf {ws : List Str} {a : Str} : a ∈ wordsOf ws ↔ a ∈ ws := by
 unfold wordsOf
 rw [(foldW ws [] List.Pairwise.nil).2]
 simp
theorem postsOf_mem {docs : List Doc} {w : Str} {p : Post} : p ∈ postsOf docs w ↔ ∃ d ∈ docs, d.1 = p.1 ∧ occ w d.2 0 = p.2 ∧ p.2 ≠ [] := by
 unfold postsOf
 rw [List.mem_filterMap]
 constructor
 ·rintro ⟨d, hd, h⟩
  by_cases hne : occ w d.2 0 = []
  ·rw [if_pos hne] at h; cases h
  ·rw [if_neg hne] at h
   injection h with h
   subst h
   exact ⟨d, hd, rfl, rfl, hne⟩
 ·rintro ⟨d, hd, e1, e2, hne⟩
  refine ⟨d, hd, ?_⟩
  rw [e2, if_neg hne, e1]
theorem postsOf_sorted {docs : List Doc} (h : (docs.map fun d => d.1).Pairwise (· < ·)) (w : Str) : Al.Sorted ltI (postsOf docs w) := by
 unfold Al.Sorted postsOf
 rw [List.pairwise_filterMap]
 rw [List.pairwise_map] at h
 refine h.imp fun {a b} hab p hp q hq => ?_
 split at hp
 ·cases hp
 ·split at hq
  ·cases hq
  ·injection hp with hp
   injection hq with hq
   subst hp hq
   simpa [ltI] using hab
theorem made_wf {docs : List Doc} (h : (docs.map fun d => d.1).Pairwise (· < ·)) : Wf (madeF docs).2 := by
 refine ⟨?_, fun t ht => ?_⟩
 ·show Al.Sorted ltS ((wordsOf _).map _)
  unfold Al.Sorted
  rw [List.pairwise_map]
  exact wordsOf_sorted _
 ·obtain ⟨w, hw, rfl⟩ := List.mem_map.1 ht
  refine ⟨fun e => ?_, postsOf_sorted h w, fun p hp => (postsOf_mem.1 hp).choose_spec.2.2.2⟩
  obtain ⟨d, hd, hwd⟩ := List.mem_flatMap.1 (mem_wordsOf.1 hw)
  have hne : occ w d.2 0 ≠ [] := fun e' => (occ_nil _ _ _).1 e' hwd
  have : (d.1, occ w d.2 0) ∈ postsOf docs w := postsOf_mem.2 ⟨d, hd, rfl, rfl, hne⟩
  simp only at e
  rw [e] at this
  cases this
theorem cont_made {docs : List Doc} (h : (docs.map fun d => d.1).Pairwise (· < ·)) (w : Str) (i : Int) : cont (madeF docs).2 w i = match docs.find? (fun d => d.1 == i) with | some d => occ w d.2 0 | none => [] := by
 have hwf := made_wf h
 have uniq : ∀ d ∈ docs, ∀ d' ∈ docs, d.1 = d'.1 → d = d' := by
  intro d hd d' hd' e
  obtain ⟨a, ha, rfl⟩ := List.mem_iff_getElem.1 hd
  obtain ⟨b, hb, rfl⟩ := List.mem_iff_getElem.1 hd'
  rw [List.pairwise_map] at h
  have hp := List.pairwise_iff_getElem.1 h
  rcases Nat.lt_trichotomy a b with h1 | h1 | h1
  ·have := hp a b ha hb h1; omega
  ·subst h1; rfl
  ·have := hp b a hb ha h1; omega
 by_cases hc : cont (madeF docs).2 w i = []
 ·rw [hc]
  cases hf : docs.find? (fun d => d.1 == i) with
  | none => rfl
  | some d =>
   have hd := List.mem_of_find?_eq_some hf
   have hdi : d.1 = i := by simpa using List.find?_some hf
   show [] = occ w d.2 0
   cases ho : occ w d.2 0 with
   | nil => rfl
   | cons a r =>
    exfalso
    have hne : occ w d.2 0 ≠ [] := by rw [ho]; simp
    have hw : w ∈ d.2 := Classical.byContradiction fun hno => hne ((occ_nil _ _ _).2 hno)
    have ht : (w, postsOf docs w) ∈ (madeF docs).2 := List.mem_map.2 ⟨w, mem_wordsOf.2 (List.mem_flatMap.2 ⟨d, hd, hw⟩), rfl⟩
    have := cont_mem hwf ht (show (d.1, occ w d.2 0) ∈ postsOf docs w from postsOf_mem.2 ⟨d, hd, rfl, rfl, hne⟩)
    simp only at this
    rw [hdi, hc, ho] at this
    cases this
 ·obtain ⟨t, ht, e1, p, hp, e2, e3⟩ := mem_cont hc
  obtain ⟨w', hw', rfl⟩ := List.mem_map.1 ht
  simp only at e1 hp
  subst e1
  obtain ⟨d, hd, h1, h2, h3⟩ := postsOf_mem.1 hp
  have hf : docs.find? (fun d => d.1 == i) = some d := by
   cases hf : docs.find? (fun d => d.1 == i) with
   | none => have := List.find?_eq_none.1 hf d hd; simp [h1, e2] at this
   | some d' =>
    have hd' := List.mem_of_find?_eq_some hf
    have hdi : d'.1 = i := by simpa using List.find?_some hf
    rw [uniq d' hd' d hd (by rw [hdi, h1, e2])]
  rw [hf, ← e3, ← h2]
/-- texts added one by one -/
def addAll (docs : List Doc) : Idx := docs.foldl (fun x d => addF x d.1 d.2) ([], [])
theorem insId_end {ids : List Int} {id : Int} (h : ∀ n ∈ ids, n < id) : insId ids id = ids ++ [id] := by
 unfold insId
 rw [List.filter_eq_self.2 fun n hn => by simpa using h n hn, List.filter_eq_nil_iff.2 fun n hn => by have := h n hn; simp; omega]
theorem made_snoc {docs : List Doc} {d : Doc} (h : ((docs ++ [d]).map fun d => d.1).Pairwise (· < ·)) : madeF (docs ++ [d]) = addF (madeF docs) d.1 d.2 := by
 have h0 := h
 rw [List.map_append, List.pairwise_append] at h
 have hlt : ∀ n ∈ docs.map (fun d => d.1), n < d.1 := fun n hn => h.2.2 n hn d.1 (by simp)
 have hwf := made_wf h.1
 have e1 : (madeF (docs ++ [d])).1 = (addF (madeF docs) d.1 d.2).1 := by
  show (docs ++ [d]).map _ = insId (docs.map _) d.1
  rw [insId_end hlt, List.map_append]; rfl
 have e2 : (madeF (docs ++ [d])).2 = (addF (madeF docs) d.1 d.2).2 := by
  refine Wf.ext (made_wf h0) (Wf.putAll d.1 d.2 0 hwf) fun w i => ?_
  rw [cont_made h0, show (addF (madeF docs) d.1 d.2).2 = putAll d.1 d.2 0 (madeF docs).2 from rfl, cont_putAll d.1 d.2 0 hwf, List.find?_append]
  have hno : docs.find? (fun d' => d'.1 == d.1) = none := List.find?_eq_none.2 fun d' hd' e => by
   have := hlt d'.1 (List.mem_map.2 ⟨d', hd', rfl⟩)
   have e' : d'.1 = d.1 := by simpa using e
   omega
  by_cases hi : i = d.1
  ·subst hi
   rw [hno, if_pos rfl, cont_made h.1, hno]
   simp
  ·rw [if_neg hi, cont_made h.1]
   have : (d.1 == i) = false := by simpa using fun e => hi e.symm
   cases hf : docs.find? (fun d => d.1 == i) with
   | some d' => simp
   | none => simp [this]
 exact Prod.ext e1 e2
end Ix
end Go.Proofs.YtnlhocbaighedaaGreatDoor
namespace Go.Proofs.YtnlhocbaighedaaGreatDoor
open Go.RowKit

theorem Own.blk {α : Type} {C : Codec α} {M : Nat → Prop} {w : World} {B : Nat} {e : TypeId} {v : Value} {l : List α} (h : Own C M w B e v l) (h0 : 0 < l.length) :
  ∃ g c cur, v = .slice (some ⟨g, 0, none⟩) l.length c ∧ l.length ≤ c ∧ c ≤ maxLen ∧ B ≤ g ∧ Blk w g e cur ∧ cur.size = c * C.n := by
 obtain ⟨xs, ho, _⟩ := h
 rcases ho.2 with ⟨rfl, h1⟩ | ⟨g, cap, cur, rfl, hb, hg, h1, h2, h3, _⟩
 ·omega
 ·exact ⟨g, cap, cur, rfl, h1, h2, hb, hg, h3⟩
/-- One cell of an element of one cell is turned. -/
theorem Own.put1 {α : Type} {C : Codec α} {M : Nat → Prop} {w : World} {B : Nat} {e : TypeId} {l : List α} {g n c : Nat} (hC : C.n = 1) (h : Own C M w B e (.slice (some ⟨g, 0, none⟩) n c) l) {k : Nat} (hk : k < l.length) {u : Value} {a : α}
  (hr : C.rd (fun b => M b ∨ b = g) w [u] a) : Own C M (w.setCell ⟨g, k, none⟩ u) B e (.slice (some ⟨g, 0, none⟩) n c) (l.set k a) := by
 obtain ⟨xs, ho, he⟩ := h
 have hxl : xs.length = l.length := by rw [he.1, hC, Nat.mul_one]
 rcases ho with ⟨hl, ⟨hv, _⟩ | ⟨g', cap, cur, hv, hb, hblk, h1, h2, hsz, htk⟩⟩
 ·cases hv
 ·injection hv with hv1 hv2 hv3
  injection hv1 with hv1
  injection hv1 with hv1
  subst hv1 hv2 hv3
  have hkc : k < cur.size := by rw [hsz, hC]; omega
  refine ⟨xs.set k u, ⟨by rw [List.length_set, List.length_set, hl], .inr ⟨g, c, cur.setIfInBounds k u, by rw [List.length_set], hb, ?_, by rw [List.length_set]; exact h1, h2, by rw [Array.size_setIfInBounds, hsz], ?_⟩⟩, ?_⟩
  ·simp [World.setCell, Array.getElem?_modify, hblk]
  ·rw [Array.toList_setIfInBounds, List.take_set, List.length_set, htk]
  ·refine ⟨by rw [List.length_set, List.length_set, he.1], fun i hi => ?_⟩
   rw [List.length_set] at hi
   have keep : ∀ (cs : List Value) (x : α), C.rd (fun b => M b ∨ b = g) w cs x → C.rd (fun b => M b ∨ (Value.slice (some ⟨g, 0, none⟩) l.length c).ownBlock = some b) (w.setCell ⟨g, k, none⟩ u) cs x := fun cs x hx => by
    have h3 := C.keep (w' := w.setCell ⟨g, k, none⟩ u) hx (fun b _ hn => Below.heap_setCell w ⟨g, k, none⟩ u b fun e => hn (.inr e)) (by simp)
    exact C.sub h3 fun b _ hor => hor.imp id fun ho => by simp only [Value.ownBlock, Option.some.injEq] at ho; exact ho.symm
   by_cases hik : i = k
   ·subst hik
    rw [List.getElem_set_self]
    have : ((xs.set i u).drop (i * C.n)).take C.n = [u] := by
     apply List.ext_getElem?
     intro j
     rw [hC]
     simp only [List.getElem?_take, List.getElem?_drop, Nat.mul_one]
     rcases j with _ | j
     ·simp [List.getElem?_set_self (show i < xs.length by omega)]
     ·simp
    rw [this]
    exact keep _ _ hr
   ·rw [List.getElem_set_ne (by omega)]
    have : ((xs.set k u).drop (i * C.n)).take C.n = (xs.drop (i * C.n)).take C.n := by
     apply List.ext_getElem?
     intro j
     rw [hC]
     simp only [List.getElem?_take, List.getElem?_drop, Nat.mul_one]
     split
     ·rw [List.getElem?_set_ne (by omega)]
     ·rfl
    rw [this]
    refine keep _ _ (C.sub (he.2 i hi) fun b _ hor => hor.imp id fun e => by rw [e]; rfl)
/-- A codec of one cell that leads nowhere. -/
def Codec.Flat {α : Type} (C : Codec α) : Prop := C.n = 1 ∧ ∀ (M M' : Nat → Prop) (w w' : World) (cs : List Value) (a : α), C.rd M w cs a → C.rd M' w' cs a
/-- A block with a mark. -/
def BlkM (w : World) (g : Nat) (t : TypeId) (n : Nat) : Prop := ∃ cs : Array Value, w.heap[g]? = some (.cells cs t (n, n + 1))
theorem BlkM.frozen {w : World} {g : Nat} {t : TypeId} {n i : Nat} (h : BlkM w g t n) (hi : i < n) : w.frozen? ⟨g, i, none⟩ = false := by
 obtain ⟨cs, h⟩ := h
 simp only [World.frozen?, h]
 simp; omega
theorem BlkM.set {w : World} {g : Nat} {t : TypeId} {n : Nat} (h : BlkM w g t n) (i : Nat) (u : Value) : BlkM (w.setCell ⟨g, i, none⟩ u) g t n := by
 obtain ⟨cs, h⟩ := h
 exact ⟨cs.setIfInBounds i u, by simp [World.setCell, Array.getElem?_modify, h]⟩
theorem BlkM.lt {w : World} {g : Nat} {t : TypeId} {n : Nat} (h : BlkM w g t n) : g < w.heap.size := by
 obtain ⟨cs, h⟩ := h
 exact (Array.getElem?_eq_some_iff.1 h).1
theorem lit_bytes (M : Nat → Prop) (w : World) : ∀ l : List UInt8, Els byteC M w (l.map fun b => .int .u8 (b.toNat : Int)) l
 | [] => Els.nil _ _ _
 | b :: l => (Els.single (C := byteC) (cs := [.int .u8 (b.toNat : Int)]) rfl).append (lit_bytes M w l)
/-! ### Elements, read -/
section
variable {M : Nat → Prop} {w : World} {A : Option Addr} {n c : Nat}
theorem SlR.strAt {l : List (List UInt8)} (h : SlR strC M w (.slice A n c) l) {k : Nat} (hk : k < l.length) :
  ∃ b off, A = some ⟨b, off, none⟩ ∧ ¬ M b ∧ b < w.heap.size ∧ w.cell? ⟨b, off + k, none⟩ = some (.string (bs l[k])) ∧ l[k].length ≤ maxLen := by
 obtain ⟨b, off, cs, rfl, hM, hb, hr, hc⟩ := h.at_ hk
 refine ⟨b, off, rfl, hM, hb, ?_, hr.2⟩
 have := hc 0 (.string (bs l[k])) (by have : cs = _ := hr.1; rw [this]; rfl)
 simpa [strC] using this
theorem SlR.intAt {l : List Int} (h : SlR intC M w (.slice A n c) l) {k : Nat} (hk : k < l.length) :
  ∃ b off, A = some ⟨b, off, none⟩ ∧ ¬ M b ∧ b < w.heap.size ∧ w.cell? ⟨b, off + k, none⟩ = some (.int .i64 l[k]) ∧ -9223372036854775808 ≤ l[k] ∧ l[k] ≤ 9223372036854775807 := by
 obtain ⟨b, off, cs, rfl, hM, hb, hr, hc⟩ := h.at_ hk
 refine ⟨b, off, rfl, hM, hb, ?_, hr.2⟩
 have := hc 0 (.int .i64 l[k]) (by have : cs = _ := hr.1; rw [this]; rfl)
 simpa [intC] using this
theorem SlR.sliceAt {α : Type} {C : Codec α} {l : List (List α)} (h : SlR (sliceC C) M w (.slice A n c) l) {k : Nat} (hk : k < l.length) :
  ∃ b off A2 c2, A = some ⟨b, off, none⟩ ∧ ¬ M b ∧ b < w.heap.size ∧ w.cell? ⟨b, off + k, none⟩ = some (.slice A2 (l[k]).length c2) ∧ SlR C M w (.slice A2 (l[k]).length c2) l[k] := by
 obtain ⟨b, off, cs, rfl, hM, hb, ⟨v, rfl, hv⟩, hc⟩ := h.at_ hk
 obtain ⟨A2, c2, rfl, _⟩ := hv.form
 refine ⟨b, off, A2, c2, rfl, hM, hb, ?_, hv⟩
 have := hc 0 _ rfl
 simpa [sliceC] using this
end
end Go.Proofs.YtnlhocbaighedaaGreatDoor
namespace Go.Proofs.YtnlhocbaighedaaGreatDoor
open Go.RowKit

def strOf : Value → Str
 | .string b => b.data.toList
 | _ => []
theorem SlR.lenM {α : Type} {C : Codec α} {M : Nat → Prop} {w : World} {A : Option Addr} {n c : Nat} {l : List α} (h : SlR C M w (.slice A n c) l) : l.length ≤ c ∧ c ≤ 9223372036854775807 := by
 obtain ⟨A2, c2, e, h1, h2⟩ := h.form
 cases e
 exact ⟨h1, h2⟩

theorem any_true (s : List Str) (p : Str → Bool) (i : Nat) (hi : i < s.length) (h : p s[i] = true) : s.any p = true := by
 rw [List.any_eq_true]
 exact ⟨_, List.getElem_mem hi, h⟩
theorem any_false {α : Type} (s : List α) (p : α → Bool) (h : ∀ (i : Nat) (hi : i < s.length), p s[i] = false) : s.any p = false := by
 rw [List.any_eq_false]
 intro x hx
 obtain ⟨i, hi, rfl⟩ := List.mem_iff_getElem.1 hx
 rw [h i hi]; simp

set_option maxHeartbeats 400000 in
theorem hasText_ok (M : Nat → Prop) (v : Value) (l : List Str) (s : Str) (w : World) (h : SlR strC M w v l) : Calls Tryz.prog 42 #[v, .string (bs s)] w fun e w' => e = .returned (.bool (l.any (· == s))) ∧ w = w' := by
 obtain ⟨A, c, rfl, _, hcm⟩ := h.form
 have hn := h.len_le
 unfold maxLen at hn
 go_enter Tryz.func42, Tryz.ntmps42
 go_wp2
 go_loop [5] (fun i => ∃ k : Nat, k ≤ l.length ∧ i = .int .i64 k ∧ Hid (∀ (j : Nat) (hj : j < l.length), j < k → (l[j] == s) = false)) (fun i => l.length - (intOf i).toNat)
 case atStart => exact ⟨0, Nat.zero_le _, rfl, Lib.hid fun j _ h => absurd h (by omega)⟩
 case round =>
  obtain ⟨k, hk, rfl, hpre⟩ := hrel
  by_cases hlt : k < l.length
  ·obtain ⟨b, off, rfl, _, _, hcell, _⟩ := h.strAt hlt
   obtain ⟨x, hx⟩ : ∃ x, x = l[k] := ⟨_, rfl⟩
   rw [← hx] at hcell
   have Hx := Lib.hid hx
   clear hx
   cases ht : (x == s) with
   | true =>
    go_wp2
    go_ret
    exact ⟨ret_bool (by rw [any_true l (· == s) k hlt (by rw [← Hx.out]; exact ht)]), rfl⟩
   | false =>
    go_wp2
    go_round
    case rel => exact ⟨k + 1, by omega, by go_num, Lib.hid fun j hj hjk => by
     by_cases e : j = k
     ·subst e; rw [← Hx.out]; exact ht
     ·exact hpre.out j hj (by omega)⟩
    case measure => simp [intOf]; omega
  ·go_wp2
   go_ret
   exact ⟨ret_bool (by rw [any_false l (· == s) fun i hi => hpre.out i hi (by omega)]), rfl⟩
end Go.Proofs.YtnlhocbaighedaaGreatDoor
namespace Go.Proofs.YtnlhocbaighedaaGreatDoor
open Go.RowKit
theorem TStrs : SlT Tryz.prog 1 53 9 16 := SlT.mk' Tryz.underlying53 (by kernel_rfl : (Tryz.prog.info? 9).map (fun i => (i.zero, i.size, i.bytes)) = some (some (.string ⟨#[]⟩), 1, 16)) rfl
theorem Own.flat {M M' : Nat → Prop} {w w' : World} {B : Nat} {e : TypeId} {v : Value} {l : List Str} (h : Own strC M w B e v l) (hk : ∀ b, v.ownBlock = some b → w'.heap[b]? = w.heap[b]?) : Own strC M' w' B e v l := by
 obtain ⟨xs, ho, he⟩ := h
 refine ⟨xs, ⟨ho.1, ?_⟩, ⟨he.1, fun i hi => he.2 i hi⟩⟩
 rcases ho.2 with hn | ⟨g, cap, cur, rfl, hb, hg, rest⟩
 ·exact .inl hn
 ·exact .inr ⟨g, cap, cur, rfl, hb, (hk g rfl).trans hg, rest⟩
def Apart (u v : Value) : Prop := ∀ b, u.ownBlock = some b → v.ownBlock ≠ some b
end Go.Proofs.YtnlhocbaighedaaGreatDoor

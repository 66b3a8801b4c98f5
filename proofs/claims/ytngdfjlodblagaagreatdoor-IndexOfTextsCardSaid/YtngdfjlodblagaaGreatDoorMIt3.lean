/-
  Contracts and plain facts, one after another: Indexes: a text added, a text removed; plain; The index of texts, made at once, is the one to which they have been added one by one; plain; A store into a slice of the call's own. No program is named here; A range over a function: an iterator's contract against any loop body, and the law of the loop. No program is named here; Regions that draw their order, walked by hand: in a round and outside. No program is named here; Regions that draw their order: what a load needs is owed only behind operations that do not wait for it. No program is named here.
-/
import Derived.Test.YtngdfjlodblagaaGreatDoorMIt2
import Derived.Test.YtngdfjlodblagaaGreatDoorMIt1
import Derived.Laws.IdiomStrings
import Derived.RangeFuncFrom
import Derived.Shelf.Abstract
import Derived.OrdersHeld
import Derived.OrdersIn
import Derived.RangeFuncCalls
/-
  Indexes: a text added, a text removed; plain.
-/
namespace Go.Proofs.YtngdfjlodblagaaGreatDoor
namespace Ix
set_option linter.unusedVariables false
def insId (ids : List Int) (id : Int) : List Int := ids.filter (fun n => decide (n < id)) ++ id :: ids.filter (fun n => decide (id < n))
def addF (x : Idx) (id : Int) (s : List Str) : Idx := (insId x.1 id, putAll id s 0 x.2)
def removeF (x : Idx) (id : Int) : Idx := (x.1.filter (fun n => !(n == id)), removeT id x.2)
theorem split_at {ids : List Int} {id : Int} {k : Nat} (hk : k ≤ ids.length) (h1 : ∀ (m : Nat) (h : m < ids.length), m < k → ids[m] < id) (h2 : ∀ (m : Nat) (h : m < ids.length), k ≤ m → id < ids[m]) :
    ids.filter (fun n => decide (n < id)) = ids.take k ∧ ids.filter (fun n => decide (id < n)) = ids.drop k := by
  have ht : ∀ n ∈ ids.take k, n < id := fun n hn => by
    obtain ⟨m, hm, rfl⟩ := List.mem_iff_getElem.1 hn
    rw [List.length_take] at hm
    rw [List.getElem_take]
    exact h1 m (by omega) (by omega)
  have hd : ∀ n ∈ ids.drop k, id < n := fun n hn => by
    obtain ⟨m, hm, rfl⟩ := List.mem_iff_getElem.1 hn
    rw [List.length_drop] at hm
    rw [List.getElem_drop]
    exact h2 _ (by omega) (by omega)
  constructor
  · conv => lhs; rw [← List.take_append_drop k ids]
    rw [List.filter_append, List.filter_eq_self.2 fun n hn => by simpa using ht n hn, List.filter_eq_nil_iff.2 fun n hn => by have := hd n hn; simp; omega, List.append_nil]
  · conv => lhs; rw [← List.take_append_drop k ids]
    rw [List.filter_append, List.filter_eq_nil_iff.2 fun n hn => by have := ht n hn; simp; omega, List.filter_eq_self.2 fun n hn => by simpa using hd n hn, List.nil_append]
theorem insId_at {ids : List Int} {id : Int} {k : Nat} (hk : k ≤ ids.length) (h1 : ∀ (m : Nat) (h : m < ids.length), m < k → ids[m] < id) (h2 : ∀ (m : Nat) (h : m < ids.length), k ≤ m → id < ids[m]) : insId ids id = ids.take k ++ id :: ids.drop k := by
  obtain ⟨a, b⟩ := split_at hk h1 h2
  unfold insId
  rw [a, b]
theorem mem_insId {ids : List Int} {id n : Int} : n ∈ insId ids id ↔ n = id ∨ n ∈ ids := by
  unfold insId
  simp only [List.mem_append, List.mem_cons, List.mem_filter, decide_eq_true_eq]
  constructor
  · rintro (⟨h, _⟩ | h | ⟨h, _⟩)
    · exact .inr h
    · exact .inl h
    · exact .inr h
  · rintro (h | h)
    · exact .inr (.inl h)
    · rcases Int.lt_trichotomy n id with e | e | e
      · exact .inl ⟨h, e⟩
      · exact .inr (.inl e)
      · exact .inr (.inr ⟨h, e⟩)
theorem insId_sorted {ids : List Int} {id : Int} (h : ids.Pairwise (· < ·)) : (insId ids id).Pairwise (· < ·) := by
  unfold insId
  rw [List.pairwise_append]
  refine ⟨h.sublist List.filter_sublist, List.pairwise_cons.2 ⟨fun n hn => by simpa using (List.mem_filter.1 hn).2, h.sublist List.filter_sublist⟩, fun a ha b hb => ?_⟩
  have h1 : a < id := by simpa using (List.mem_filter.1 ha).2
  rcases List.mem_cons.1 hb with e | e
  · rw [e]; exact h1
  · have h2 : id < b := by simpa using (List.mem_filter.1 e).2
    omega
theorem filter_parts {ids : List Int} {id : Int} (hid : id ∉ ids) (h : ids.Pairwise (· < ·)) : ids.filter (fun n => decide (n < id)) ++ ids.filter (fun n => decide (id < n)) = ids := by
  induction ids with
  | nil => rfl
  | cons a r ih =>
    rw [List.pairwise_cons] at h
    have hne : a ≠ id := fun e => hid (by rw [e]; exact List.mem_cons_self)
    have hr : id ∉ r := fun e => hid (List.mem_cons_of_mem _ e)
    by_cases ha : a < id
    · have : ¬ id < a := by omega
      simp [ha, this, ih hr h.2]
    · have ha2 : id < a := by omega
      have : r.filter (fun n => decide (n < id)) = [] := List.filter_eq_nil_iff.2 fun n hn => by have := h.1 n hn; simp; omega
      have h3 : r.filter (fun n => decide (id < n)) = r := List.filter_eq_self.2 fun n hn => by have := h.1 n hn; simp; omega
      simp [ha, ha2, this, h3]
theorem insId_len {ids : List Int} {id : Int} (hid : id ∉ ids) (h : ids.Pairwise (· < ·)) : (insId ids id).length = ids.length + 1 := by
  have := congrArg List.length (filter_parts hid h)
  rw [List.length_append] at this
  unfold insId
  rw [List.length_append, List.length_cons]
  omega
theorem remove_insId {ids : List Int} {id : Int} (hid : id ∉ ids) (h : ids.Pairwise (· < ·)) : (insId ids id).filter (fun n => !(n == id)) = ids := by
  conv => rhs; rw [← filter_parts hid h]
  unfold insId
  rw [List.filter_append, List.filter_cons, List.filter_filter, List.filter_filter]
  simp only [beq_self_eq_true, Bool.not_true, Bool.false_eq_true, if_false]
  congr 1
  · exact List.filter_congr fun n _ => by by_cases e : n < id <;> simp [e]; omega
  · exact List.filter_congr fun n _ => by by_cases e : id < n <;> simp [e]; omega
theorem sorted_ext {a b : List Int} (ha : a.Pairwise (· < ·)) (hb : b.Pairwise (· < ·)) (h : ∀ n, n ∈ a ↔ n ∈ b) : a = b := by
  refine List.Perm.eq_of_pairwise (le := fun x y => x < y) (fun x y _ _ h1 h2 => by omega) ha hb ?_
  exact (List.perm_ext_iff_of_nodup (ha.imp fun h => by omega) (hb.imp fun h => by omega)).2 h
theorem insId_comm {ids : List Int} {a b : Int} (h : ids.Pairwise (· < ·)) : insId (insId ids a) b = insId (insId ids b) a := by
  refine sorted_ext (insId_sorted (insId_sorted h)) (insId_sorted (insId_sorted h)) fun n => ?_
  simp only [mem_insId]
  constructor <;> rintro (h | h | h) <;> simp [h]
theorem eraseIdx_filter {ids : List Int} (h : ids.Pairwise (· < ·)) {k : Nat} (hk : k < ids.length) : ids.eraseIdx k = ids.filter fun n => !(n == ids[k]) := by
  have hp := List.pairwise_iff_getElem.1 h
  refine sorted_ext (h.sublist (List.eraseIdx_sublist _ _)) (h.sublist List.filter_sublist) fun n => ?_
  rw [List.mem_eraseIdx_iff_getElem, List.mem_filter]
  constructor
  · rintro ⟨i, hi, hik, rfl⟩
    refine ⟨List.getElem_mem _, ?_⟩
    rcases Nat.lt_or_gt_of_ne hik with e | e
    · have := hp i k hi hk e; simp; omega
    · have := hp k i hk hi e; simp; omega
  · rintro ⟨h1, h2⟩
    obtain ⟨i, hi, rfl⟩ := List.mem_iff_getElem.1 h1
    exact ⟨i, hi, fun e => by subst e; simp at h2, rfl⟩
/-! ### members and contents -/
theorem cont_mem {ts : List Term} (h : Wf ts) {t : Term} (ht : t ∈ ts) {p : Post} (hp : p ∈ t.2) : cont ts t.1 p.1 = p.2 := by
  unfold cont
  rw [Al.look_of_mem tot_str h.srt (show (t.1, t.2) ∈ ts from ht)]
  show (Al.look t.2 p.1).getD [] = _
  rw [Al.look_of_mem totI (h.post t ht).2.1 (show (p.1, p.2) ∈ t.2 from hp)]
  rfl
theorem mem_cont {ts : List Term} {w : Str} {i : Int} (h : cont ts w i ≠ []) : ∃ t ∈ ts, t.1 = w ∧ ∃ p ∈ t.2, p.1 = i ∧ p.2 = cont ts w i := by
  unfold cont at h ⊢
  cases hw : Al.look ts w with
  | none => rw [hw] at h; exact absurd rfl h
  | some ps =>
    rw [hw] at h
    simp only [Option.bind_some] at h ⊢
    cases hq : Al.look ps i with
    | none => rw [hq] at h; exact absurd rfl h
    | some q => exact ⟨_, Al.look_mem hw, rfl, _, Al.look_mem hq, rfl, rfl⟩
theorem occ_range (w : Str) : ∀ (s : List Str) (n : Nat), (occ w s n).Pairwise (· < ·) ∧ ∀ m ∈ occ w s n, (n : Int) ≤ m ∧ m < n + s.length
  | [], n => by simp [occ]
  | a :: s, n => by
    have ih := occ_range w s (n + 1)
    rw [occ]
    split
    · refine ⟨List.pairwise_cons.2 ⟨fun m hm => by have := (ih.2 m hm).1; omega, ih.1⟩, fun m hm => ?_⟩
      rcases List.mem_cons.1 hm with e | e
      · simp; omega
      · have := ih.2 m e; simp; omega
    · exact ⟨ih.1, fun m hm => by have := ih.2 m hm; simp; omega⟩
theorem occ_nil (w : Str) : ∀ (s : List Str) (n : Nat), occ w s n = [] ↔ w ∉ s
  | [], n => by simp [occ]
  | a :: s, n => by
    rw [occ]
    split
    · rename_i e; simp [e]
    · rename_i e
      rw [occ_nil w s (n + 1), List.mem_cons]
      simp only [not_or]
      exact ⟨fun h => ⟨fun e' => e e'.symm, h⟩, fun h => h.2⟩
theorem strange {x : Idx} (h : Canon x) {id : Int} (hid : id ∉ x.1) (w : Str) : cont x.2 w id = [] := by
  cases hc : cont x.2 w id with
  | nil => rfl
  | cons a r =>
    obtain ⟨t, ht, _, p, hp, e, _⟩ := mem_cont (ts := x.2) (w := w) (i := id) (by rw [hc]; simp)
    exact absurd (e ▸ ((h.post t ht).2.2 p hp).1) hid
theorem canon_add {x : Idx} (h : Canon x) {id : Int} {s : List Str} (h1 : 1 ≤ id ∧ id ≤ 1000000) (hid : id ∉ x.1) (hn : x.1.length < 300) (hs : ∀ w ∈ s, w ≠ [] ∧ w.length ≤ 8000) (hsl : s.length ≤ 1000000) (hm : (putAll id s 0 x.2).length ≤ 1000000) : Canon (addF x id s) := by
  have hwf := h.wf
  have hw' := Wf.putAll id s 0 hwf
  have hc := cont_putAll id s 0 hwf
  have key : ∀ t ∈ putAll id s 0 x.2, ∀ p ∈ t.2, (t.1 ≠ [] ∧ t.1.length ≤ 8000) ∧ p.1 ∈ insId x.1 id ∧ p.2.Pairwise (· < ·) ∧ ∀ n ∈ p.2, 0 ≤ n ∧ n ≤ 1000000 := by
    intro t ht p hp
    have e := cont_mem hw' ht hp
    have hne := (hw'.post t ht).2.2 p hp
    rw [hc] at e
    split at e
    · rename_i hi
      rw [strange h hid, List.nil_append] at e
      rw [← e] at hne ⊢
      have hmem : t.1 ∈ s := Classical.byContradiction fun hno => hne ((occ_nil _ _ _).2 hno)
      have ho := occ_range t.1 s 0
      exact ⟨hs _ hmem, mem_insId.2 (.inl hi), ho.1, fun n hn => by have := ho.2 n hn; omega⟩
    · rename_i hi
      rw [← e] at hne
      obtain ⟨t', ht', e1, p', hp', e2, e3⟩ := mem_cont hne
      have h2 := (h.post t' ht').2.2 p' hp'
      rw [e3, e] at h2
      exact ⟨by rw [← e1]; exact h.word t' ht', mem_insId.2 (.inr (e2 ▸ h2.1)), h2.2.2⟩
  refine ⟨by show (insId x.1 id).length ≤ 300; rw [insId_len hid h.ids]; omega, insId_sorted h.ids, fun n hn => ?_, hm, hw'.srt, fun t ht => ?_, fun t ht => ?_⟩
  · rcases mem_insId.1 hn with e | e
    · rw [e]; exact h1
    · exact h.idr n e
  · obtain ⟨hne, _, _⟩ := hw'.post t ht
    obtain ⟨p, r, e⟩ : ∃ p r, t.2 = p :: r := by cases h : t.2 with | nil => exact absurd h hne | cons p r => exact ⟨p, r, rfl⟩
    exact (key t ht p (by rw [e]; exact List.mem_cons_self)).1
  · obtain ⟨hne, hsr, hno⟩ := hw'.post t ht
    exact ⟨hne, hsr, fun p hp => ⟨(key t ht p hp).2.1, hno p hp, (key t ht p hp).2.2⟩⟩
theorem len_filter_lt {ids : List Int} (p : Int → Bool) : (ids.filter p).length ≤ ids.length := List.length_filter_le _ _
theorem canon_remove {x : Idx} (h : Canon x) (id : Int) : Canon (removeF x id) := by
  have hw' := h.wf.remove id
  have hc := cont_remove h.wf id
  have key : ∀ t ∈ removeT id x.2, ∀ p ∈ t.2, (t.1 ≠ [] ∧ t.1.length ≤ 8000) ∧ p.1 ∈ x.1.filter (fun n => !(n == id)) ∧ p.2.Pairwise (· < ·) ∧ ∀ n ∈ p.2, 0 ≤ n ∧ n ≤ 1000000 := by
    intro t ht p hp
    have e := cont_mem hw' ht hp
    have hne := (hw'.post t ht).2.2 p hp
    rw [hc] at e
    split at e
    · exact absurd e.symm hne
    · rename_i hi
      rw [← e] at hne
      obtain ⟨t', ht', e1, p', hp', e2, e3⟩ := mem_cont hne
      have h2 := (h.post t' ht').2.2 p' hp'
      rw [e3, e] at h2
      refine ⟨by rw [← e1]; exact h.word t' ht', List.mem_filter.2 ⟨e2 ▸ h2.1, by simpa using hi⟩, h2.2.2⟩
  refine ⟨?_, h.ids.sublist List.filter_sublist, fun n hn => h.idr n (List.mem_filter.1 hn).1, ?_, hw'.srt, fun t ht => ?_, fun t ht => ?_⟩
  · have := h.few
    have := List.length_filter_le (fun n => !(n == id)) x.1
    show (x.1.filter _).length ≤ 300
    omega
  · have := h.many
    have h2 : (removeT id x.2).length ≤ x.2.length := by
      unfold removeT
      refine Nat.le_trans (List.length_filter_le _ _) ?_
      rw [List.length_map]
      exact Nat.le_refl _
    show (removeT id x.2).length ≤ 1000000
    omega
  · obtain ⟨hne, _, _⟩ := hw'.post t ht
    obtain ⟨p, r, e⟩ : ∃ p r, t.2 = p :: r := by cases h : t.2 with | nil => exact absurd h hne | cons p r => exact ⟨p, r, rfl⟩
    exact (key t ht p (by rw [e]; exact List.mem_cons_self)).1
  · obtain ⟨hne, hsr, hno⟩ := hw'.post t ht
    exact ⟨hne, hsr, fun p hp => ⟨(key t ht p hp).2.1, hno p hp, (key t ht p hp).2.2⟩⟩
/-! ### the laws -/
theorem remove_add {x : Idx} (h : Canon x) {id : Int} (hid : id ∉ x.1) (s : List Str) : removeF (addF x id s) id = x := by
  unfold removeF addF
  rw [remove_insId hid h.ids, remove_put h.wf id s (strange h hid)]
theorem add_comm {x : Idx} (h : Canon x) {a b : Int} (s t : List Str) (hab : a ≠ b) : addF (addF x a s) b t = addF (addF x b t) a s := by
  unfold addF
  simp only
  rw [insId_comm h.ids, put_comm h.wf a b s t hab]
/-! ### how many terms there are -/
theorem upd_len {f : Option (List Post) → List Post} {w : Str} : ∀ {ts : List Term}, Al.Sorted ltS ts → (Al.upd ltS f w ts).length = ts.length + if Al.look ts w = none then 1 else 0
  | [], _ => by simp [Al.upd, Al.look]
  | t :: ts, h => by
    have h0 := h
    unfold Al.Sorted at h
    rw [List.pairwise_cons] at h
    rw [Al.upd]
    split
    · rename_i hlt
      have hne : ¬ t.1 = w := tot_str.ne hlt
      rw [List.length_cons, upd_len h.2, Al.look, if_neg hne, List.length_cons]
      omega
    · rename_i hlt
      split
      · rename_i e
        rw [Al.look, if_pos e]
        simp
      · rename_i e
        have hgt : ltS w t.1 = true := by
          cases hh : ltS w t.1 with
          | true => rfl
          | false => exact absurd (tot_str.total _ _ (by simpa using hlt) hh) e
        have hn : Al.look (t :: ts) w = none := Al.look_none fun q hq e2 => by
          rcases List.mem_cons.1 hq with e3 | e3
          · subst e3; exact e e2
          · exact tot_str.ne (tot_str.trans _ _ _ hgt (h.1 _ e3)) e2.symm
        rw [hn]
        simp
/-- how many words are new -/
def fresh (ts : List Term) : List Str → List Str → Nat
  | _, [] => 0
  | seen, w :: s => (if Al.look ts w = none ∧ w ∉ seen then 1 else 0) + fresh ts (seen ++ [w]) s
theorem look_putT {id place : Int} {ts : List Term} (h : Wf ts) (w w' : Str) : Al.look (putT id place w ts) w' = none ↔ Al.look ts w' = none ∧ w' ≠ w := by
  unfold putT
  rw [Al.look_upd tot_str h.srt]
  by_cases e : w' = w
  · simp [e]
  · simp [e]
theorem putAll_len (id : Int) (ts0 : List Term) : ∀ (s : List Str) (n : Nat) (seen : List Str) {ts : List Term}, Wf ts → (∀ w, Al.look ts w = none ↔ Al.look ts0 w = none ∧ w ∉ seen) → (putAll id s n ts).length = ts.length + fresh ts0 seen s
  | [], n, seen, ts, _, _ => rfl
  | w :: s, n, seen, ts, h, hl => by
    rw [putAll, putAll_len id ts0 s (n + 1) (seen ++ [w]) (h.put id n w) fun w' => by
      rw [look_putT h, hl w', List.mem_append, List.mem_singleton]
      constructor
      · rintro ⟨⟨a, b⟩, c⟩; exact ⟨a, fun e => e.elim b c⟩
      · rintro ⟨a, b⟩; exact ⟨⟨a, fun e => b (.inl e)⟩, fun e => b (.inr e)⟩]
    rw [show (putT id n w ts).length = _ from upd_len h.srt, fresh]
    by_cases e : Al.look ts w = none
    · rw [if_pos e, if_pos ((hl w).1 e)]; omega
    · rw [if_neg e, if_neg fun e' => e ((hl w).2 e')]; omega
theorem fresh_le (ts : List Term) : ∀ (s seen : List Str), fresh ts seen s ≤ s.length
  | [], _ => Nat.le_refl _
  | w :: s, seen => by
    have := fresh_le ts s (seen ++ [w])
    rw [fresh, List.length_cons]
    split <;> omega
end Ix
end Go.Proofs.YtngdfjlodblagaaGreatDoor
/-
  The index of texts, made at once, is the one to which they have been added one by one; plain.
-/
namespace Go.Proofs.YtngdfjlodblagaaGreatDoor
namespace Ix
set_option linter.unusedVariables false
/-- a word in its place among others -/
def insW (l : List Str) (s : Str) : List Str := l.takeWhile (fun a => ltS a s) ++ s :: l.dropWhile (fun a => ltS a s)
def putW (l : List Str) (s : Str) : List Str := if s ∈ l then l else insW l s
def wordsOf (ws : List Str) : List Str := ws.foldl putW []
abbrev Doc := Int × List Str
def postsOf (docs : List Doc) (w : Str) : List Post := docs.filterMap fun d => if occ w d.2 0 = [] then none else some (d.1, occ w d.2 0)
def madeF (docs : List Doc) : Idx := (docs.map fun d => d.1, (wordsOf (docs.flatMap fun d => d.2)).map fun w => (w, postsOf docs w))
def SortedW (l : List Str) : Prop := l.Pairwise fun a b => ltS a b = true
theorem insW_split {l : List Str} (h : SortedW l) (s : Str) : (∀ a ∈ l.takeWhile (fun a => ltS a s), ltS a s = true) ∧ (s ∉ l → ∀ a ∈ l.dropWhile (fun a => ltS a s), ltS s a = true) := by
  induction l with
  | nil => simp
  | cons b r ih =>
    have h0 := h
    unfold SortedW at h
    rw [List.pairwise_cons] at h
    rw [List.takeWhile_cons, List.dropWhile_cons]
    cases hb : ltS b s with
    | true =>
      simp only [if_true]
      obtain ⟨h1, h2⟩ := ih h.2
      refine ⟨fun a ha => ?_, fun hs a ha => h2 (fun e => hs (List.mem_cons_of_mem _ e)) a ha⟩
      rcases List.mem_cons.1 ha with e | e
      · rw [e]; exact hb
      · exact h1 a e
    | false =>
      simp only [Bool.false_eq_true, if_false]
      refine ⟨fun a ha => (by cases ha), fun hs a ha => ?_⟩
      have hsb : ltS s b = true := by
        rcases ltS_total s b with e | e | e
        · exact e
        · exact absurd (by rw [e]; exact List.mem_cons_self) hs
        · rw [e] at hb; cases hb
      rcases List.mem_cons.1 ha with e | e
      · rw [e]; exact hsb
      · exact ltS_trans hsb (h.1 a e)
theorem putW_sorted {l : List Str} (h : SortedW l) (s : Str) : SortedW (putW l s) := by
  unfold putW
  split
  · exact h
  · rename_i hs
    obtain ⟨h1, h2⟩ := insW_split h s
    have hs' := h2 hs
    unfold SortedW insW
    have hl : (l.takeWhile (fun a => ltS a s) ++ l.dropWhile (fun a => ltS a s)).Pairwise fun a b => ltS a b = true := by rw [List.takeWhile_append_dropWhile]; exact h
    rw [List.pairwise_append] at hl ⊢
    refine ⟨hl.1, List.pairwise_cons.2 ⟨hs', hl.2.1⟩, fun a ha b hb => ?_⟩
    rcases List.mem_cons.1 hb with e | e
    · rw [e]; exact h1 a ha
    · exact hl.2.2 a ha b e
theorem mem_putW {l : List Str} {s a : Str} : a ∈ putW l s ↔ a = s ∨ a ∈ l := by
  unfold putW
  split
  · rename_i hs
    exact ⟨.inr, fun h => h.elim (fun e => e ▸ hs) id⟩
  · unfold insW
    have : a ∈ l ↔ a ∈ l.takeWhile (fun a => ltS a s) ++ l.dropWhile (fun a => ltS a s) := by rw [List.takeWhile_append_dropWhile]
    rw [this]
    simp only [List.mem_append, List.mem_cons]
    constructor <;> rintro (h | h | h) <;> simp [h]
theorem foldW (ws : List Str) : ∀ l, SortedW l → SortedW (ws.foldl putW l) ∧ ∀ a, a ∈ ws.foldl putW l ↔ a ∈ l ∨ a ∈ ws := by
  induction ws with
  | nil => intro l h; exact ⟨h, fun a => by simp⟩
  | cons w ws ih =>
    intro l h
    obtain ⟨h1, h2⟩ := ih (putW l w) (putW_sorted h w)
    refine ⟨h1, fun a => ?_⟩
    rw [List.foldl_cons, h2, mem_putW, List.mem_cons]
    constructor
    · rintro ((h | h) | h) <;> simp [h]
    · rintro (h | h | h) <;> simp [h]
theorem wordsOf_sorted (ws : List Str) : SortedW (wordsOf ws) := (foldW ws [] List.Pairwise.nil).1
theorem mem_wordsOf {ws : List Str} {a : Str} : a ∈ wordsOf ws ↔ a ∈ ws := by
  unfold wordsOf
  rw [(foldW ws [] List.Pairwise.nil).2]
  simp
theorem postsOf_mem {docs : List Doc} {w : Str} {p : Post} : p ∈ postsOf docs w ↔ ∃ d ∈ docs, d.1 = p.1 ∧ occ w d.2 0 = p.2 ∧ p.2 ≠ [] := by
  unfold postsOf
  rw [List.mem_filterMap]
  constructor
  · rintro ⟨d, hd, h⟩
    by_cases hne : occ w d.2 0 = []
    · rw [if_pos hne] at h; cases h
    · rw [if_neg hne] at h
      injection h with h
      subst h
      exact ⟨d, hd, rfl, rfl, hne⟩
  · rintro ⟨d, hd, e1, e2, hne⟩
    refine ⟨d, hd, ?_⟩
    rw [e2, if_neg hne, e1]
theorem postsOf_sorted {docs : List Doc} (h : (docs.map fun d => d.1).Pairwise (· < ·)) (w : Str) : Al.Sorted ltI (postsOf docs w) := by
  unfold Al.Sorted postsOf
  rw [List.pairwise_filterMap]
  rw [List.pairwise_map] at h
  refine h.imp fun {a b} hab p hp q hq => ?_
  split at hp
  · cases hp
  · split at hq
    · cases hq
    · injection hp with hp
      injection hq with hq
      subst hp hq
      simpa [ltI] using hab
theorem made_wf {docs : List Doc} (h : (docs.map fun d => d.1).Pairwise (· < ·)) : Wf (madeF docs).2 := by
  refine ⟨?_, fun t ht => ?_⟩
  · show Al.Sorted ltS ((wordsOf _).map _)
    unfold Al.Sorted
    rw [List.pairwise_map]
    exact wordsOf_sorted _
  · obtain ⟨w, hw, rfl⟩ := List.mem_map.1 ht
    refine ⟨fun e => ?_, postsOf_sorted h w, fun p hp => (postsOf_mem.1 hp).choose_spec.2.2.2⟩
    obtain ⟨d, hd, hwd⟩ := List.mem_flatMap.1 (mem_wordsOf.1 hw)
    have hne : occ w d.2 0 ≠ [] := fun e' => (occ_nil _ _ _).1 e' hwd
    have : (d.1, occ w d.2 0) ∈ postsOf docs w := postsOf_mem.2 ⟨d, hd, rfl, rfl, hne⟩
    simp only at e
    rw [e] at this
    cases this
theorem cont_made {docs : List Doc} (h : (docs.map fun d => d.1).Pairwise (· < ·)) (w : Str) (i : Int) : cont (madeF docs).2 w i = match docs.find? (fun d => d.1 == i) with | some d => occ w d.2 0 | none => [] := by
  have hwf := made_wf h
  have uniq : ∀ d ∈ docs, ∀ d' ∈ docs, d.1 = d'.1 → d = d' := by
    intro d hd d' hd' e
    obtain ⟨a, ha, rfl⟩ := List.mem_iff_getElem.1 hd
    obtain ⟨b, hb, rfl⟩ := List.mem_iff_getElem.1 hd'
    rw [List.pairwise_map] at h
    have hp := List.pairwise_iff_getElem.1 h
    rcases Nat.lt_trichotomy a b with h1 | h1 | h1
    · have := hp a b ha hb h1; omega
    · subst h1; rfl
    · have := hp b a hb ha h1; omega
  by_cases hc : cont (madeF docs).2 w i = []
  · rw [hc]
    cases hf : docs.find? (fun d => d.1 == i) with
    | none => rfl
    | some d =>
      have hd := List.mem_of_find?_eq_some hf
      have hdi : d.1 = i := by simpa using List.find?_some hf
      show [] = occ w d.2 0
      cases ho : occ w d.2 0 with
      | nil => rfl
      | cons a r =>
        exfalso
        have hne : occ w d.2 0 ≠ [] := by rw [ho]; simp
        have hw : w ∈ d.2 := Classical.byContradiction fun hno => hne ((occ_nil _ _ _).2 hno)
        have ht : (w, postsOf docs w) ∈ (madeF docs).2 := List.mem_map.2 ⟨w, mem_wordsOf.2 (List.mem_flatMap.2 ⟨d, hd, hw⟩), rfl⟩
        have := cont_mem hwf ht (show (d.1, occ w d.2 0) ∈ postsOf docs w from postsOf_mem.2 ⟨d, hd, rfl, rfl, hne⟩)
        simp only at this
        rw [hdi, hc, ho] at this
        cases this
  · obtain ⟨t, ht, e1, p, hp, e2, e3⟩ := mem_cont hc
    obtain ⟨w', hw', rfl⟩ := List.mem_map.1 ht
    simp only at e1 hp
    subst e1
    obtain ⟨d, hd, h1, h2, h3⟩ := postsOf_mem.1 hp
    have hf : docs.find? (fun d => d.1 == i) = some d := by
      cases hf : docs.find? (fun d => d.1 == i) with
      | none => have := List.find?_eq_none.1 hf d hd; simp [h1, e2] at this
      | some d' =>
        have hd' := List.mem_of_find?_eq_some hf
        have hdi : d'.1 = i := by simpa using List.find?_some hf
        rw [uniq d' hd' d hd (by rw [hdi, h1, e2])]
    rw [hf, ← e3, ← h2]
/-- texts added one by one -/
def addAll (docs : List Doc) : Idx := docs.foldl (fun x d => addF x d.1 d.2) ([], [])
theorem insId_end {ids : List Int} {id : Int} (h : ∀ n ∈ ids, n < id) : insId ids id = ids ++ [id] := by
  unfold insId
  rw [List.filter_eq_self.2 fun n hn => by simpa using h n hn, List.filter_eq_nil_iff.2 fun n hn => by have := h n hn; simp; omega]
theorem wf_nil : Wf [] := ⟨List.Pairwise.nil, fun t ht => by cases ht⟩
theorem made_snoc {docs : List Doc} {d : Doc} (h : ((docs ++ [d]).map fun d => d.1).Pairwise (· < ·)) : madeF (docs ++ [d]) = addF (madeF docs) d.1 d.2 := by
  have h0 := h
  rw [List.map_append, List.pairwise_append] at h
  have hlt : ∀ n ∈ docs.map (fun d => d.1), n < d.1 := fun n hn => h.2.2 n hn d.1 (by simp)
  have hwf := made_wf h.1
  have e1 : (madeF (docs ++ [d])).1 = (addF (madeF docs) d.1 d.2).1 := by
    show (docs ++ [d]).map _ = insId (docs.map _) d.1
    rw [insId_end hlt, List.map_append]; rfl
  have e2 : (madeF (docs ++ [d])).2 = (addF (madeF docs) d.1 d.2).2 := by
    refine Wf.ext (made_wf h0) (Wf.putAll d.1 d.2 0 hwf) fun w i => ?_
    rw [cont_made h0, show (addF (madeF docs) d.1 d.2).2 = putAll d.1 d.2 0 (madeF docs).2 from rfl, cont_putAll d.1 d.2 0 hwf, List.find?_append]
    have hno : docs.find? (fun d' => d'.1 == d.1) = none := List.find?_eq_none.2 fun d' hd' e => by
      have := hlt d'.1 (List.mem_map.2 ⟨d', hd', rfl⟩)
      have e' : d'.1 = d.1 := by simpa using e
      omega
    by_cases hi : i = d.1
    · subst hi
      rw [hno, if_pos rfl, cont_made h.1, hno]
      simp
    · rw [if_neg hi, cont_made h.1]
      have : (d.1 == i) = false := by simpa using fun e => hi e.symm
      cases hf : docs.find? (fun d => d.1 == i) with
      | some d' => simp
      | none => simp [this]
  exact Prod.ext e1 e2
theorem made_nil : madeF [] = ([], []) := rfl
end Ix
end Go.Proofs.YtngdfjlodblagaaGreatDoor
/-
  A store into a slice of the call's own. No program is named here.
-/
namespace Go.Proofs.YtngdfjlodblagaaGreatDoor
open Go.RowKit

theorem Own.blk {α : Type} {C : Codec α} {M : Nat → Prop} {w : World} {B : Nat} {e : TypeId} {v : Value} {l : List α} (h : Own C M w B e v l) (h0 : 0 < l.length) :
    ∃ g c cur, v = .slice (some ⟨g, 0, none⟩) l.length c ∧ l.length ≤ c ∧ c ≤ maxLen ∧ B ≤ g ∧ Blk w g e cur ∧ cur.size = c * C.n := by
  obtain ⟨xs, ho, _⟩ := h
  rcases ho.2 with ⟨rfl, h1⟩ | ⟨g, cap, cur, rfl, hb, hg, h1, h2, h3, _⟩
  · omega
  · exact ⟨g, cap, cur, rfl, h1, h2, hb, hg, h3⟩
/-- One cell of an element of one cell is turned. -/
theorem Own.put1 {α : Type} {C : Codec α} {M : Nat → Prop} {w : World} {B : Nat} {e : TypeId} {l : List α} {g n c : Nat} (hC : C.n = 1) (h : Own C M w B e (.slice (some ⟨g, 0, none⟩) n c) l) {k : Nat} (hk : k < l.length) {u : Value} {a : α}
    (hr : C.rd (fun b => M b ∨ b = g) w [u] a) : Own C M (w.setCell ⟨g, k, none⟩ u) B e (.slice (some ⟨g, 0, none⟩) n c) (l.set k a) := by
  obtain ⟨xs, ho, he⟩ := h
  have hxl : xs.length = l.length := by rw [he.1, hC, Nat.mul_one]
  rcases ho with ⟨hl, ⟨hv, _⟩ | ⟨g', cap, cur, hv, hb, hblk, h1, h2, hsz, htk⟩⟩
  · cases hv
  · injection hv with hv1 hv2 hv3
    injection hv1 with hv1
    injection hv1 with hv1
    subst hv1 hv2 hv3
    have hkc : k < cur.size := by rw [hsz, hC]; omega
    refine ⟨xs.set k u, ⟨by rw [List.length_set, List.length_set, hl], .inr ⟨g, c, cur.setIfInBounds k u, by rw [List.length_set], hb, ?_, by rw [List.length_set]; exact h1, h2, by rw [Array.size_setIfInBounds, hsz], ?_⟩⟩, ?_⟩
    · simp [World.setCell, Array.getElem?_modify, hblk]
    · rw [Array.toList_setIfInBounds, List.take_set, List.length_set, htk]
    · refine ⟨by rw [List.length_set, List.length_set, he.1], fun i hi => ?_⟩
      rw [List.length_set] at hi
      have keep : ∀ (cs : List Value) (x : α), C.rd (fun b => M b ∨ b = g) w cs x → C.rd (fun b => M b ∨ (Value.slice (some ⟨g, 0, none⟩) l.length c).ownBlock = some b) (w.setCell ⟨g, k, none⟩ u) cs x := fun cs x hx => by
        have h3 := C.keep (w' := w.setCell ⟨g, k, none⟩ u) hx (fun b _ hn => Below.heap_setCell w ⟨g, k, none⟩ u b fun e => hn (.inr e)) (by simp)
        exact C.sub h3 fun b _ hor => hor.imp id fun ho => by simp only [Value.ownBlock, Option.some.injEq] at ho; exact ho.symm
      by_cases hik : i = k
      · subst hik
        rw [List.getElem_set_self]
        have : ((xs.set i u).drop (i * C.n)).take C.n = [u] := by
          apply List.ext_getElem?
          intro j
          rw [hC]
          simp only [List.getElem?_take, List.getElem?_drop, Nat.mul_one]
          rcases j with _ | j
          · simp [List.getElem?_set_self (show i < xs.length by omega)]
          · simp
        rw [this]
        exact keep _ _ hr
      · rw [List.getElem_set_ne (by omega)]
        have : ((xs.set k u).drop (i * C.n)).take C.n = (xs.drop (i * C.n)).take C.n := by
          apply List.ext_getElem?
          intro j
          rw [hC]
          simp only [List.getElem?_take, List.getElem?_drop, Nat.mul_one]
          split
          · rw [List.getElem?_set_ne (by omega)]
          · rfl
        rw [this]
        refine keep _ _ (C.sub (he.2 i hi) fun b _ hor => hor.imp id fun e => by rw [e]; rfl)
/-- A codec of one cell that leads nowhere. -/
def Codec.Flat {α : Type} (C : Codec α) : Prop := C.n = 1 ∧ ∀ (M M' : Nat → Prop) (w w' : World) (cs : List Value) (a : α), C.rd M w cs a → C.rd M' w' cs a
theorem flat_byte : byteC.Flat := ⟨rfl, fun _ _ _ _ _ _ h => h⟩
theorem flat_int : intC.Flat := ⟨rfl, fun _ _ _ _ _ _ h => h⟩
theorem flat_bool : boolC.Flat := ⟨rfl, fun _ _ _ _ _ _ h => h⟩
theorem flat_str : strC.Flat := ⟨rfl, fun _ _ _ _ _ _ h => h⟩
/-- A store into a slice whose elements lead nowhere. -/
theorem SlR.set1 {α : Type} {C : Codec α} (hF : C.Flat) {M : Nat → Prop} {w : World} {l : List α} {b off n c k : Nat} (h : SlR C M w (.slice (some ⟨b, off, none⟩) n c) l) (hk : k < l.length) {u : Value} {a : α} (hu : C.rd M w [u] a) :
    SlR C M (w.setCell ⟨b, off + k, none⟩ u) (.slice (some ⟨b, off, none⟩) n c) (l.set k a) := by
  obtain ⟨A, n', c', xs, hv, rfl, hc, hm, he, ha⟩ := h
  injection hv with e1 e2 e3
  subst e1 e2 e3
  obtain ⟨hC, hfl⟩ := hF
  have hxl : xs.length = l.length := by rw [he.1, hC, Nat.mul_one]
  refine ⟨_, _, _, xs.set k u, rfl, by rw [List.length_set], hc, hm, ⟨by rw [List.length_set, List.length_set, he.1], fun i hi => ?_⟩, fun h0 => ?_⟩
  · rw [List.length_set] at hi
    refine hfl M M w _ _ _ ?_
    by_cases hik : i = k
    · subst hik
      rw [List.getElem_set_self]
      have : ((xs.set i u).drop (i * C.n)).take C.n = [u] := by
        apply List.ext_getElem?
        intro j
        rw [hC]
        simp only [List.getElem?_take, List.getElem?_drop, Nat.mul_one]
        rcases j with _ | j
        · simp [List.getElem?_set_self (show i < xs.length by omega)]
        · simp
      rw [this]
      exact hu
    · rw [List.getElem_set_ne (by omega)]
      have : ((xs.set k u).drop (i * C.n)).take C.n = (xs.drop (i * C.n)).take C.n := by
        apply List.ext_getElem?
        intro j
        rw [hC]
        simp only [List.getElem?_take, List.getElem?_drop, Nat.mul_one]
        split
        · rw [List.getElem?_set_ne (by omega)]
        · rfl
      rw [this]
      exact he.2 i hi
  · obtain ⟨b', off', hA, hM, hb, hcell⟩ := ha h0
    cases hA
    refine ⟨b, off, rfl, hM, by simpa using hb, fun j v hv => ?_⟩
    by_cases hjk : j = k
    · subst hjk
      rw [List.getElem?_set_self (by omega)] at hv
      injection hv with hv
      subst hv
      obtain ⟨v0, hv0⟩ : ∃ v0, xs[j]? = some v0 := ⟨_, List.getElem?_eq_getElem (show j < xs.length by omega)⟩
      exact World.cell?_setCell_same _ _ _ (hcell j v0 hv0)
    · rw [List.getElem?_set_ne (by omega)] at hv
      exact (World.cell?_setCell_other _ _ _ _ (by intro e; injection e with _ e; omega)).trans (hcell j v hv)
/-- A block with a mark. -/
def BlkM (w : World) (g : Nat) (t : TypeId) (n : Nat) : Prop := ∃ cs : Array Value, w.heap[g]? = some (.cells cs t (n, n + 1))
theorem BlkM.frozen {w : World} {g : Nat} {t : TypeId} {n i : Nat} (h : BlkM w g t n) (hi : i < n) : w.frozen? ⟨g, i, none⟩ = false := by
  obtain ⟨cs, h⟩ := h
  simp only [World.frozen?, h]
  simp; omega
theorem BlkM.set {w : World} {g : Nat} {t : TypeId} {n : Nat} (h : BlkM w g t n) (i : Nat) (u : Value) : BlkM (w.setCell ⟨g, i, none⟩ u) g t n := by
  obtain ⟨cs, h⟩ := h
  exact ⟨cs.setIfInBounds i u, by simp [World.setCell, Array.getElem?_modify, h]⟩
theorem BlkM.lt {w : World} {g : Nat} {t : TypeId} {n : Nat} (h : BlkM w g t n) : g < w.heap.size := by
  obtain ⟨cs, h⟩ := h
  exact (Array.getElem?_eq_some_iff.1 h).1
theorem lit_bytes (M : Nat → Prop) (w : World) : ∀ l : List UInt8, Els byteC M w (l.map fun b => .int .u8 (b.toNat : Int)) l
  | [] => Els.nil _ _ _
  | b :: l => (Els.single (C := byteC) (cs := [.int .u8 (b.toNat : Int)]) rfl).append (lit_bytes M w l)
/-- '[]byte(s)': what it leaves. -/
theorem run_bytes_of {P : Program} (w : World) (src dst e : TypeId) (s : List UInt8) (hn : s.length ≤ maxLen) (hs : P.underlying src = some .string) (hd : P.underlying dst = some (.slice e)) (he : P.underlying e = some (.int .u8)) :
    ∃ c w', (convert src dst (.string (bs s))).run P w = .ok (.slice (some ⟨w.heap.size, 0, none⟩) s.length c) w' ∧ s.length ≤ c ∧ c ≤ maxLen ∧ SlR byteC M0 w' (.slice (some ⟨w.heap.size, 0, none⟩) s.length c) s ∧ (∃ m, s.length ≤ m ∧ BlkM w' w.heap.size e m) ∧ Below w.heap.size w w' := by
  have h1 := run_bytes_of_string (P := P) w src dst e (bs s) hs hd he
  rw [bs_size] at h1
  have hge := grownCap_ge w s.length 0 e
  have hle := grownCap_le_maxLen w s.length 0 e (by simpa using hn)
  have hrow : bytesRow (bs s) (grownCap w s.length 0 e) = (s.map fun b => Value.int .u8 (b.toNat : Int)).toArray ++ Array.replicate (grownCap w s.length 0 e - s.length) (.int .u8 0) := by
    simp [bytesRow, bs, ByteArray.size]
  have hlen : (bytesRow (bs s) (grownCap w s.length 0 e)).size = grownCap w s.length 0 e := by rw [hrow]; simp; omega
  refine ⟨_, _, h1, hge, hle, ?_, ⟨(bytesRow (bs s) (grownCap w s.length 0 e)).size, by rw [hlen]; exact hge, ⟨_, heap_alloc_new _ _⟩⟩, ((Below.refl _ w).trans (below_drewN' _ w 1)).alloc (Nat.le_refl _) _⟩
  refine ⟨_, _, _, s.map fun b => Value.int .u8 (b.toNat : Int), rfl, rfl, hge, hle, lit_bytes _ _ s, fun _ => ⟨_, 0, rfl, fun h => h, by simp, fun j u hu => ?_⟩⟩
  rw [Nat.zero_add]
  have hb : (w.drew.alloc (.cells (bytesRow (bs s) (grownCap w s.length 0 e)) e ((bytesRow (bs s) (grownCap w s.length 0 e)).size, (bytesRow (bs s) (grownCap w s.length 0 e)).size + 1))).heap[w.heap.size]? = some _ := heap_alloc_new w.drew _
  simp only [World.cell?, hb]
  rw [hrow]
  have hj : j < s.length := by have := (List.getElem?_eq_some_iff.1 hu).1; simpa using this
  simpa [Array.getElem?_append, hj] using hu
/-! ### Elements, read -/
section
variable {M : Nat → Prop} {w : World} {A : Option Addr} {n c : Nat}
theorem SlR.byteAt {l : List UInt8} (h : SlR byteC M w (.slice A n c) l) {k : Nat} (hk : k < l.length) :
    ∃ b off, A = some ⟨b, off, none⟩ ∧ ¬ M b ∧ b < w.heap.size ∧ w.cell? ⟨b, off + k, none⟩ = some (.int .u8 (l[k].toNat : Int)) := by
  obtain ⟨b, off, cs, rfl, hM, hb, hr, hc⟩ := h.at_ hk
  refine ⟨b, off, rfl, hM, hb, ?_⟩
  have := hc 0 (.int .u8 (l[k].toNat : Int)) (by have : cs = _ := hr; rw [this]; rfl)
  simpa [byteC] using this
theorem SlR.strAt {l : List (List UInt8)} (h : SlR strC M w (.slice A n c) l) {k : Nat} (hk : k < l.length) :
    ∃ b off, A = some ⟨b, off, none⟩ ∧ ¬ M b ∧ b < w.heap.size ∧ w.cell? ⟨b, off + k, none⟩ = some (.string (bs l[k])) ∧ l[k].length ≤ maxLen := by
  obtain ⟨b, off, cs, rfl, hM, hb, hr, hc⟩ := h.at_ hk
  refine ⟨b, off, rfl, hM, hb, ?_, hr.2⟩
  have := hc 0 (.string (bs l[k])) (by have : cs = _ := hr.1; rw [this]; rfl)
  simpa [strC] using this
theorem SlR.intAt {l : List Int} (h : SlR intC M w (.slice A n c) l) {k : Nat} (hk : k < l.length) :
    ∃ b off, A = some ⟨b, off, none⟩ ∧ ¬ M b ∧ b < w.heap.size ∧ w.cell? ⟨b, off + k, none⟩ = some (.int .i64 l[k]) ∧ -9223372036854775808 ≤ l[k] ∧ l[k] ≤ 9223372036854775807 := by
  obtain ⟨b, off, cs, rfl, hM, hb, hr, hc⟩ := h.at_ hk
  refine ⟨b, off, rfl, hM, hb, ?_, hr.2⟩
  have := hc 0 (.int .i64 l[k]) (by have : cs = _ := hr.1; rw [this]; rfl)
  simpa [intC] using this
theorem SlR.sliceAt {α : Type} {C : Codec α} {l : List (List α)} (h : SlR (sliceC C) M w (.slice A n c) l) {k : Nat} (hk : k < l.length) :
    ∃ b off A2 c2, A = some ⟨b, off, none⟩ ∧ ¬ M b ∧ b < w.heap.size ∧ w.cell? ⟨b, off + k, none⟩ = some (.slice A2 (l[k]).length c2) ∧ SlR C M w (.slice A2 (l[k]).length c2) l[k] := by
  obtain ⟨b, off, cs, rfl, hM, hb, ⟨v, rfl, hv⟩, hc⟩ := h.at_ hk
  obtain ⟨A2, c2, rfl, _⟩ := hv.form
  refine ⟨b, off, A2, c2, rfl, hM, hb, ?_, hv⟩
  have := hc 0 _ rfl
  simpa [sliceC] using this
/-- The first z elements. -/
theorem SlR.firsts {α : Type} {C : Codec α} {l : List α} (h : SlR C M w (.slice A n c) l) {z : Nat} (hz : z ≤ l.length) : SlR C M w (.slice A z c) (l.take z) := by
  obtain ⟨A', n', c', xs, hv, rfl, hc, hm, he, ha⟩ := h
  injection hv with e1 e2 e3
  subst e1 e2 e3
  have hlen : (l.take z).length = z := by simp [Nat.min_eq_left hz]
  refine ⟨A, z, c, xs.take (z * C.n), rfl, hlen.symm, by omega, hm, he.take z, ?_⟩
  intro h0
  obtain ⟨b, off, hA, hM, hb, hcell⟩ := ha (by omega)
  refine ⟨b, off, hA, hM, hb, fun j u hu => hcell j u ?_⟩
  rw [List.getElem?_take] at hu
  split at hu
  · exact hu
  · cases hu
end
end Go.Proofs.YtngdfjlodblagaaGreatDoor
/-
  A range over a function: an iterator's contract against any loop body, and the law of the loop. No program is named here.
-/
namespace Go.Proofs.YtngdfjlodblagaaGreatDoor
open Go.RowKit

/-- A round: it turns the blocks of S alone; behind it S' may be turned: S and what it has made. -/
structure Chg (S S' : Nat → Prop) (w w' : World) : Prop where
  os : w'.os = w.os
  tape : w'.tape = w.tape
  output : w'.output = w.output
  size : w.heap.size ≤ w'.heap.size
  same : ∀ b, b < w.heap.size → ¬ S b → w'.heap[b]? = w.heap[b]?
  own : ∀ b, S' b → b < w'.heap.size ∧ (S b ∨ w.heap.size ≤ b)
/-- Between two rounds: what lay below n, and the blocks of S, lie as they lay. -/
structure Kept (n : Nat) (S : Nat → Prop) (w w' : World) : Prop where
  os : w'.os = w.os
  tape : w'.tape = w.tape
  output : w'.output = w.output
  size : w.heap.size ≤ w'.heap.size
  same : ∀ b, b < w.heap.size → (b < n ∨ S b) → w'.heap[b]? = w.heap[b]?
theorem Kept.refl (n : Nat) (S : Nat → Prop) (w : World) : Kept n S w w := ⟨rfl, rfl, rfl, Nat.le_refl _, fun _ _ _ => rfl⟩
theorem Kept.trans {n : Nat} {S : Nat → Prop} {a b c : World} (h : Kept n S a b) (k : Kept n S b c) : Kept n S a c :=
  ⟨k.os.trans h.os, k.tape.trans h.tape, k.output.trans h.output, Nat.le_trans h.size k.size, fun i hi hs => (k.same i (by have := h.size; omega) hs).trans (h.same i hi hs)⟩
theorem Kept.of_below {n : Nat} {S : Nat → Prop} {w w' : World} (h : Below w.heap.size w w') : Kept n S w w' := ⟨h.os, h.tape, h.output, h.size, fun b hb _ => h.block b hb⟩
theorem Kept.below {n B : Nat} {S : Nat → Prop} {a w w' : World} (h : Kept n S w w') (hB : B ≤ n) (hb : Below B a w) (hn : B ≤ w.heap.size) : Below B a w' :=
  ⟨h.os.trans hb.os, h.tape.trans hb.tape, h.output.trans hb.output, Nat.le_trans hb.size h.size, fun k hk => (h.same k (by omega) (.inl (by omega))).trans (hb.block k hk)⟩
theorem Kept.putObj {n : Nat} {S : Nat → Prop} {w : World} {r : Nat} {o : Obj} (hn : n ≤ r) (hS : ¬ S r) : Kept n S w (w.putObj r o) :=
  ⟨rfl, rfl, rfl, by simp, fun b _ hb => World.putObj_heap_other (fun e => by subst e; rcases hb with h | h; omega; exact hS h)⟩

/-- The iterator value '.func gf' with lb behind it yields the elements xs, in order, to whatever body: FP: what it reads (it lies outside S). -/
def Iter {α : Type} (P : Program) (gf : Nat) (lb : Array Value) (encs : α → Array Value) (xs : List α) (FP : (Nat → Prop) → World → Prop) : Prop :=
  ∀ (l : Nat) (J Jx : Nat → (Nat → Prop) → World → Prop) (S : Nat → Prop) (W : World), FP S W → (∀ b, S b → b < W.heap.size) →
    (∀ k S W1 W2, J k S W1 → Kept W.heap.size S W1 W2 → J k S W2) → (∀ k S W1 W2, Jx k S W1 → Kept W.heap.size S W1 W2 → Jx k S W2) →
    (∀ k (h : k < xs.length) S W1, J k S W1 → W.heap.size ≤ W1.heap.size → YieldAt Fence.wide 0 P l (encs xs[k]) W1 fun e W' => ∃ S', Chg S S' W1 W' ∧
      ((e = .returned (.bool true) ∧ J (k + 1) S' W') ∨ (e = .returned (.bool false) ∧ Jx (k + 1) S' W'))) →
    J 0 S W →
    CallsIn Fence.wide 0 P gf (#[.func (.yield l) #[] #[]] ++ lb) W fun e W' => (∃ v, e = .returned v) ∧ ((∃ S', J xs.length S' W') ∨ ∃ k S', Jx k S' W')

/-- How the body of a round may be left. -/
def itPost (I : Nat → (Nat → Prop) → World → Prop) (Ix : Code → Nat → (Nat → Prop) → World → Prop) (k : Nat) (S : Nat → Prop) (W : World) : Exit → Act → World → Prop
  | .normal, _, W' => ∃ S', Chg S S' W W' ∧ I (k + 1) S' W'
  | .ret, _, W' => ∃ S', Chg S S' W W' ∧ Ix .ret (k + 1) S' W'
  | .exit id, _, W' => ∃ S', Chg S S' W W' ∧ Ix (.exit id) (k + 1) S' W'
  | _, _, _ => False

theorem wp_rangeFunc_iter {P : Program} {α : Type} {g : Operand} {ps : Array Tmp} {assign body : Code} {Q : Exit → Act → World → Prop} {a : Act} {w : World}
    {gf : Nat} {lb : Array Value} {encs : α → Array Value} {xs : List α} {FP : (Nat → Prop) → World → Prop}
    (hit : Iter P gf lb encs xs FP) (hg : a.eval g = .func (.func gf) #[] lb) (eg : ∀ args w, (callFunc gf args).run P w = .ok (.enter gf args) w)
    (hps : ∀ x, (encs x).size = ps.size)
    (I : Nat → (Nat → Prop) → World → Prop) (Ix : Code → Nat → (Nat → Prop) → World → Prop) (S : Nat → Prop)
    (hS : ∀ b, S b → b < w.heap.size)
    (hFP : ∀ S' W, (∀ b, S' b → S b ∨ w.heap.size ≤ b) → Below w.heap.size w W → FP S' W)
    (hI : ∀ k S W W', I k S W → Kept w.heap.size S W W' → I k S W') (hIx : ∀ c k S W W', Ix c k S W → Kept w.heap.size S W W' → Ix c k S W')
    (h0 : I 0 S w) (a₁ : α → Act)
    (hassign : ∀ (l : Nat) (x : α) (W : World) (K : Act → World → Prop), K (a₁ x) W →
      assign.wpIn (Fence.wide.inRound l) 0 P (Exit.then K (fun _ _ _ => False)) { tmps := (ps.zip (encs x)).foldl (fun t (p, v) => t.setIfInBounds p v) a.tmps, defers := [] } W)
    (hbody : ∀ (l k : Nat) (h : k < xs.length) (S : Nat → Prop) (W : World), I k S W → (∀ b, S b → b < W.heap.size) → w.heap.size ≤ W.heap.size →
      body.wpIn (Fence.wide.inRound l) 0 P (itPost I Ix k S W) (a₁ xs[k]) W)
    (hdone : ∀ (D : Nat) (S : Nat → Prop) (W : World), w.heap.size ≤ D → ¬ S D → I xs.length S W → W.heap[D]? = some (.deferred (some [])) → Q .normal { a with defers := { target := .collected D, args := #[] } :: a.defers } W)
    (hstop : ∀ (D : Nat) (c : Code) (k : Nat) (S : Nat → Prop) (W : World), w.heap.size ≤ D → ¬ S D → Ix c k S W → W.heap[D]? = some (.deferred (some [])) → c.wp P Q { a with defers := { target := .collected D, args := #[] } :: a.defers } W) :
    (Code.rangeFunc g ps assign body).wp P Q a w := by
  refine (wpIn_wide (n := 0)).1 (wpIn_rangeFunc ?_)
  intro fn hfn
  obtain ⟨rec, hrec⟩ : ∃ rec : LoopState → Option Code → Loop, rec = fun st pe => { state := st, pending := pe, fn, tmps := a.tmps, params := ps, assign, body, defers := w.heap.size } := ⟨_, rfl⟩
  obtain ⟨W1, hW1⟩ : ∃ W1, (w.alloc (.deferred (some []))).alloc (.loop (rec .ready none)) = W1 := ⟨_, rfl⟩
  have hs1 : W1.heap.size = w.heap.size + 2 := by rw [← hW1]; simp
  have hL1 : W1.heap[w.heap.size + 1]? = some (.loop (rec .ready none)) := by
    rw [← hW1]; have := World.alloc_heap_new (w.alloc (.deferred (some []))) (.loop (rec .ready none)); rwa [World.size_alloc] at this
  have hK1 : W1.heap[w.heap.size]? = some (.deferred (some [])) := by
    rw [← hW1]; exact (Below.heap_alloc _ _ _ (by simp)).trans (World.alloc_heap_new w _)
  have hb1 : Below w.heap.size w W1 := by
    rw [← hW1]; exact ((Below.refl _ w).alloc (Nat.le_refl _) _).alloc (by simp) _
  -- the iterator's invariant: the caller's, and the two blocks of book-keeping
  let bk (T S : Nat → Prop) : Prop := (∀ b, T b ↔ S b ∨ b = w.heap.size ∨ b = w.heap.size + 1) ∧ ¬ S w.heap.size ∧ ¬ S (w.heap.size + 1)
  let J : Nat → (Nat → Prop) → World → Prop := fun k T W => ∃ S, bk T S ∧ I k S W ∧ (∀ b, S b → b < W.heap.size) ∧ W.heap[w.heap.size + 1]? = some (.loop (rec .ready none)) ∧ W.heap[w.heap.size]? = some (.deferred (some []))
  let Jx : Nat → (Nat → Prop) → World → Prop := fun k T W => ∃ S c, bk T S ∧ Ix c k S W ∧ W.heap[w.heap.size + 1]? = some (.loop (rec .done (some c))) ∧ W.heap[w.heap.size]? = some (.deferred (some []))
  have keptS : ∀ {T S : Nat → Prop} {A B : World}, bk T S → Kept W1.heap.size T A B → Kept w.heap.size S A B := fun hb hk =>
    ⟨hk.os, hk.tape, hk.output, hk.size, fun b hlt hor => hk.same b hlt (hor.elim (fun h => .inl (by omega)) (fun h => .inr ((hb.1 b).2 (.inl h))))⟩
  refine ⟨w.heap.size + 1, [{ target := .collected w.heap.size, args := #[] }], W1, { target := .fn (.func gf) lb, args := #[.func (.yield (w.heap.size + 1)) #[] #[]] }, W1, gf,
    #[.func (.yield (w.heap.size + 1)) #[] #[]] ++ lb, W1, ?_, ?_, ?_, ?_, fun h => by simp [Fence.wide] at h, ?_⟩
  · rw [← hW1, hrec]; exact run_enterLoop_outer _ _ _ _ _
  · simp only [resolve, hg]
    simp [go_sem]
  · intro f' _; trivial
  · simp [invoke, go_sem, eg]
  · refine (hit (w.heap.size + 1) J Jx (fun b => S b ∨ b = w.heap.size ∨ b = w.heap.size + 1) W1
      (hFP _ _ (fun b hb => hb.elim .inl fun h => .inr (by omega)) hb1) (fun b hb => by rcases hb with h | h | h; have := hS b h; omega; omega; omega) ?_ ?_ ?_ ?_).mono ?_
    · rintro k T A B ⟨S', hbk, hi, hlt, hl, hk⟩ hkept
      exact ⟨S', hbk, hI _ _ _ _ hi (keptS hbk hkept), fun b hb => Nat.lt_of_lt_of_le (hlt b hb) hkept.size,
        (hkept.same _ (Array.getElem?_eq_some_iff.1 hl).1 (.inl (by omega))).trans hl, (hkept.same _ (Array.getElem?_eq_some_iff.1 hk).1 (.inl (by omega))).trans hk⟩
    · rintro k T A B ⟨S', c, hbk, hi, hl, hk⟩ hkept
      exact ⟨S', c, hbk, hIx _ _ _ _ _ hi (keptS hbk hkept),
        (hkept.same _ (Array.getElem?_eq_some_iff.1 hl).1 (.inl (by omega))).trans hl, (hkept.same _ (Array.getElem?_eq_some_iff.1 hk).1 (.inl (by omega))).trans hk⟩
    · -- one round
      rintro k hk T W ⟨S', hbk, hi, hlt, hl, hd⟩ hsz
      have hll : w.heap.size + 1 < W.heap.size := (Array.getElem?_eq_some_iff.1 hl).1
      have hy := run_yield (P := P) (args := encs xs[k]) hl (by rw [hrec]; exact hps _)
      rw [hrec] at hy
      refine ⟨fn, _, assign, body, hy, roundIn_of_wpIn hfn (hassign _ xs[k] W _ ⟨_, run_beginRound hl (by rw [hrec]), ?_⟩)⟩
      obtain ⟨W2, hW2⟩ : ∃ W2, W.putObj (w.heap.size + 1) (.loop { rec .ready none with state := .busy }) = W2 := ⟨_, rfl⟩
      have hl2 : W2.heap[w.heap.size + 1]? = some (.loop { rec .ready none with state := .busy }) := by rw [← hW2]; exact World.putObj_heap_same hll
      have hd2 : W2.heap[w.heap.size]? = some (.deferred (some [])) := by rw [← hW2]; exact (World.putObj_heap_other (by omega)).trans hd
      have hs2 : W2.heap.size = W.heap.size := by rw [← hW2]; simp
      have hi2 : I k S' W2 := by rw [← hW2]; exact hI _ _ _ _ hi (Kept.putObj (by omega) hbk.2.2)
      have hsame2 : ∀ b, b ≠ w.heap.size + 1 → W2.heap[b]? = W.heap[b]? := fun b hb => by rw [← hW2]; exact World.putObj_heap_other hb
      have ho2 : W2.os = W.os ∧ W2.tape = W.tape ∧ W2.output = W.output := by rw [← hW2]; exact ⟨rfl, rfl, rfl⟩
      rw [hW2]
      refine wpIn_mono (hbody _ k hk S' W2 hi2 (fun b hb => by rw [hs2]; exact hlt b hb) (by omega)) ?_
      have fin : ∀ (jump : Option Code) (S'' : Nat → Prop) (W3 : World), Chg S' S'' W2 W3 →
          (Instr.endRound (w.heap.size + 1) jump).run P W3 = .ok (.bool jump.isNone) (W3.putObj (w.heap.size + 1) (.loop (rec (if jump.isNone then .ready else .done) jump))) ∧
          Chg T (fun b => S'' b ∨ b = w.heap.size ∨ b = w.heap.size + 1) W (W3.putObj (w.heap.size + 1) (.loop (rec (if jump.isNone then .ready else .done) jump))) ∧
          bk (fun b => S'' b ∨ b = w.heap.size ∨ b = w.heap.size + 1) S'' ∧
          Kept w.heap.size S'' W3 (W3.putObj (w.heap.size + 1) (.loop (rec (if jump.isNone then .ready else .done) jump))) ∧
          (W3.putObj (w.heap.size + 1) (.loop (rec (if jump.isNone then .ready else .done) jump))).heap[w.heap.size + 1]? = some (.loop (rec (if jump.isNone then .ready else .done) jump)) ∧
          (W3.putObj (w.heap.size + 1) (.loop (rec (if jump.isNone then .ready else .done) jump))).heap[w.heap.size]? = some (.deferred (some [])) := fun jump S'' W3 hc => by
        have hl3 : W3.heap[w.heap.size + 1]? = some (.loop { rec .ready none with state := .busy }) := (hc.same _ (by omega) hbk.2.2).trans hl2
        have hd3 : W3.heap[w.heap.size]? = some (.deferred (some [])) := (hc.same _ (by omega) hbk.2.1).trans hd2
        have hsz3 := hc.size
        have hn1 : ¬ S'' w.heap.size := fun h => (hc.own _ h).2.elim hbk.2.1 (by omega)
        have hn2 : ¬ S'' (w.heap.size + 1) := fun h => (hc.own _ h).2.elim hbk.2.2 (by omega)
        have hr := run_endRound (P := P) jump hl3
        rw [hrec] at hr ⊢
        refine ⟨hr, ⟨hc.os.trans ho2.1, hc.tape.trans ho2.2.1, hc.output.trans ho2.2.2, by rw [World.putObj_size]; omega, fun b hb hT => ?_, fun b hb => ?_⟩, ⟨fun b => Iff.rfl, hn1, hn2⟩, Kept.putObj (by omega) hn2, World.putObj_heap_same (by omega), (World.putObj_heap_other (by omega)).trans hd3⟩
        · have hb1 : b ≠ w.heap.size + 1 := fun e => hT ((hbk.1 b).2 (.inr (.inr e)))
          exact (World.putObj_heap_other hb1).trans ((hc.same b (by omega) (fun h => hT ((hbk.1 b).2 (.inl h)))).trans (hsame2 b hb1))
        · rw [World.putObj_size]
          rcases hb with h | h | h
          · obtain ⟨h1, h2⟩ := hc.own b h
            exact ⟨h1, h2.elim (fun h => .inl ((hbk.1 b).2 (.inl h))) (fun h => .inr (by omega))⟩
          · exact ⟨by omega, .inl ((hbk.1 b).2 (.inr (.inl h)))⟩
          · exact ⟨by omega, .inl ((hbk.1 b).2 (.inr (.inr h)))⟩
      rintro e a3 W3 hp
      cases e with
      | normal =>
        obtain ⟨S'', hc, hi3⟩ := hp
        obtain ⟨hr, hc4, hbk4, hk4, hl4, hd4⟩ := fin none S'' W3 hc
        exact ⟨_, _, hr, _, hc4, .inl ⟨rfl, S'', hbk4, hI _ _ _ _ hi3 hk4, fun b hb => by rw [World.putObj_size]; exact (hc.own b hb).1, hl4, hd4⟩⟩
      | ret =>
        obtain ⟨S'', hc, hi3⟩ := hp
        obtain ⟨hr, hc4, hbk4, hk4, hl4, hd4⟩ := fin (some .ret) S'' W3 hc
        exact ⟨_, _, hr, _, hc4, .inr ⟨rfl, S'', .ret, hbk4, hIx _ _ _ _ _ hi3 hk4, hl4, hd4⟩⟩
      | exit id =>
        obtain ⟨S'', hc, hi3⟩ := hp
        obtain ⟨hr, hc4, hbk4, hk4, hl4, hd4⟩ := fin (some (.exit id)) S'' W3 hc
        exact ⟨_, _, hr, _, hc4, .inr ⟨rfl, S'', .exit id, hbk4, hIx _ _ _ _ _ hi3 hk4, hl4, hd4⟩⟩
      | goto t => exact hp.elim
      | panic ch => exact hp.elim
      | outgrown => exact hp.elim
    · exact ⟨S, ⟨fun b => Iff.rfl, fun h => by have := hS _ h; omega, fun h => by have := hS _ h; omega⟩, hI _ _ _ _ h0 (Kept.of_below hb1), fun b hb => by have := hS b hb; omega, hL1, hK1⟩
    · -- behind the iterator
      rintro e W2 ⟨⟨v, rfl⟩, (⟨T, S', hbk, hi, _, hl, hd⟩ | ⟨k, T, S', c, hbk, hi, hl, hd⟩)⟩
      · refine ⟨none, _, by have := run_endLoop (P := P) hl (by rw [hrec]; simp); rw [hrec] at this; exact this, hdone _ S' _ (Nat.le_refl _) hbk.2.1 (hI _ _ _ _ hi (Kept.putObj (by omega) hbk.2.2)) ((World.putObj_heap_other (by omega)).trans hd)⟩
      · exact ⟨some c, _, by have := run_endLoop (P := P) hl (by rw [hrec]; simp); rw [hrec] at this; exact this,
          (wpIn_wide (n := 0)).2 (hstop _ c k S' _ (Nat.le_refl _) hbk.2.1 (hIx _ _ _ _ _ hi (Kept.putObj (by omega) hbk.2.2)) ((World.putObj_heap_other (by omega)).trans hd))⟩

/-- What a body must achieve that holds ranges over functions: 'bodyPostM', unfenced. -/
theorem calls_of_wp_marks {P : Program} {f : FuncId} {fn : Func} {c : Code} {args : Array Value} {w : World} {R : Ending → World → Prop}
    (hf : P.funcs[f]? = some fn) (hb : fn.body = some c)
    (h : c.wp P (bodyPostM Fence.wide 0 P fn R) { tmps := args ++ Array.replicate (fn.ntmps - args.size) undef, defers := [] } w) : Calls P f args w R :=
  callsIn_wide.1 (callsIn_of_wp_marks (F := Fence.wide) (n := 0) hf hb trivial ((wpIn_wide (n := 0)).2 h) rfl)
theorem bodyPostM_none {P : Program} {fn : Func} {R : Ending → World → Prop} {t : Array Value} {w : World} {v : Value} (hv : (results fn t).run P w = .ok v w) (hR : R (.returned v) w) :
    bodyPostM Fence.wide 0 P fn R .ret { tmps := t, defers := [] } w := ⟨_, hv, hR⟩
theorem bodyPostM_one {P : Program} {fn : Func} {R : Ending → World → Prop} {t : Array Value} {w : World} {v : Value} {D : Nat} (hD : w.heap[D]? = some (.deferred (some [])))
    (hv : (results fn t).run P (w.putObj D (.deferred none)) = .ok v (w.putObj D (.deferred none))) (hR : R (.returned v) (w.putObj D (.deferred none))) :
    bodyPostM Fence.wide 0 P fn R .ret { tmps := t, defers := [{ target := .collected D, args := #[] }] } w :=
  ⟨by simp, .inl ⟨_, _, rfl, run_takeDeferred hD, _, hv, hR⟩⟩
end Go.Proofs.YtngdfjlodblagaaGreatDoor
/-
  Regions that draw their order, walked by hand: in a round and outside. No program is named here.
-/
namespace Go.Proofs.YtngdfjlodblagaaGreatDoor
open Go.RowKit

section
variable {P : Program} {Q : Exit → Act → World → Prop} {ops : Array Oper} {md : Region.Mode} {S : World → Prop}

theorem oper_inRound {l n : Nat} {o : Oper} {a : Act} {w : World} {next : Act → World → Prop} (hnd : ∀ c, o.op ≠ .defer c) (h : o.wp P a w next Q) :
    o.wpIn (Fence.wide.inRound l) n P a w next Q := by
  refine ⟨fun _ _ => trivial, ?_⟩
  rw [Oper.semAt_eq _ _ _ hnd]
  unfold Oper.wp at h
  revert h
  generalize (execOp a.eval o).run P w = r
  intro h
  have hd : (Fence.wide.inRound l).depth.isSome = true → 1 ≤ n := fun hh => by simp [Fence.wide] at hh
  cases r with
  | ok nx w' =>
    cases nx with
    | value v => exact h
    | skip => exact h
    | defer d => exact h
    | enter f args => exact ⟨hd, CallsIn.inRound l (callsIn_wide.2 h)⟩
    | row row args => exact ⟨hd, fun c cs _ => let ⟨v, w2, r, s⟩ := h c cs; ⟨v, w2, r, stepsIn_wide.2 s⟩⟩
    | _ => exact h.elim
  | halt hh w' => cases hh <;> first | exact h | exact h.elim

/-- No operation of the region is a defer. -/
def noDefer (ops : Array Oper) : Bool := ops.all fun o => match o.op with | .defer _ => false | _ => true
theorem noDefer_spec (h : noDefer ops = true) {j : Nat} {o : Oper} (ho : ops[j]? = some o) : ∀ c, o.op ≠ .defer c := fun c e => by
  unfold noDefer at h
  rw [Array.all_eq_true] at h
  obtain ⟨hj, rfl⟩ := Array.getElem?_eq_some_iff.1 ho
  have := h j hj
  rw [e] at this
  cases this

theorem any_inRound {l n : Nat} (hnd : noDefer ops = true) (hL : ¬ LetsOut Q) : ∀ (fuel : Nat) (listed : Array Bool) (a : Act) (w : World), wpAny P md ops Q fuel listed a w → wpAnyIn (Fence.wide.inRound l) n P md ops Q fuel listed a w
  | 0, _, _, _, h => h
  | fuel + 1, listed, a, w, h => ⟨h.1, fun i hi => by
      have h1 := h.2 i hi
      unfold wpOp at h1
      unfold wpOpIn
      cases ho : ops[i]? with
      | none => rw [ho] at h1; exact any_inRound hnd hL fuel _ _ _ h1
      | some o =>
        rw [ho] at h1
        simp only at h1 ⊢
        split at h1
        · rename_i hw
          rw [if_pos hw]
          rcases h1 with h1 | h1
          · exact oper_inRound (noDefer_spec hnd ho) (Oper.wp_mono (fun a w h2 => any_inRound hnd hL fuel _ a w h2) h1)
          · exact absurd h1.2 hL
        · rename_i hw
          rw [if_neg hw]
          exact ⟨fun _ _ => trivial, any_inRound hnd hL fuel _ _ _ h1⟩⟩

theorem wpIn_region_held_round {l n id : Nat} {a : Act} {w : World} (S : World → Prop) (hm : P.follows .mixedOrders = true) (hnd : noDefer ops = true) (hL : ¬ LetsOut Q)
    (h : wpAnyH P .any ops Q S ops.size (Array.replicate ops.size false) a w.drew) : (Code.region id ops true).wpIn (Fence.wide.inRound l) n P Q a w :=
  wpIn_region_any hm (any_inRound hnd hL _ _ _ _ (wpAny_of_held _ _ _ _ h))

/-- One operation alone may come up. -/
theorem wpAnyH_one {i fuel : Nat} {o : Oper} {listed : Array Bool} {a : Act} {w : World} (hr : Region.ready md ops listed = [i]) (ho : ops[i]? = some o) (hg : o.guard = none)
    (h : ∀ K : Act → World → Prop, (∀ a w, S w → wpAnyH P md ops Q S fuel (listed.setIfInBounds i true) a w → K a w) → o.wp P a w K Q) : wpAnyH P md ops Q S (fuel + 1) listed a w := by
  refine wpAnyH_all hr (by simp) fun j hj => ?_
  obtain rfl : j = i := by simpa using hj
  unfold wpOp
  rw [ho]
  have hw : Region.wanted o (yielded ops a.tmps) = true := by simp [Region.wanted, hg]
  simp only [hw, if_true]
  exact .inl (h _ fun a w h1 h2 => ⟨h1, h2⟩)
/-- A light operation is taken first. -/
theorem wpAnyH_light {i fuel : Nat} {o : Oper} {v : Value} {listed : Array Bool} {a : Act} {w : World} (ho : ops[i]? = some o) (hs : Region.noSelect ops = true) (hf : Region.free md ops listed i = true)
    (hr : (Region.ready md ops listed).contains i = true) (hQ : ∀ c a w, Q (.panic c) (a.put o.dst v) w → Q (.panic c) a w) (hg : o.guard = none) (hy : ∀ w, S w → (execOp a.eval o).run P w = .ok (.value v) w) (hS : S w)
    (h : wpAnyH P md ops Q S fuel (listed.setIfInBounds i true) (a.put o.dst v) w) : wpAnyH P md ops Q S (fuel + 1) listed a w :=
  wpAnyH_take ho hs hf hr hQ (.inl ⟨by simp [Region.wanted, hg], hy⟩) hS h
end

section
variable {P : Program} {α : Type} (C : Codec α) {w : World} {M : Nat → Prop} {B : Nat} {l l' : List α} {o : Oper} {a : Act} {K : Act → World → Prop} {Q : Exit → Act → World → Prop} {t e : TypeId} {bytes : Nat}
/-- append, as one operation. -/
theorem wp_append_Own (T : SlT P C.n t e bytes) (s x : Operand)
    (ho : o.op = .call { callee := .builtin .append, args := #[s, x], argTypes := #[t, t] })
    {v : Value} (hs : a.eval s = v) (hown : Own C M w B e v l)
    {x' : Value} (hx : a.eval x = x') (hr : SlR C (fun b => M b ∨ v.ownBlock = some b) w x' l')
    (h63 : l.length + l'.length ≤ maxLen) (hbytes : (l.length + l'.length) * bytes ≤ 140737488355328) (hbase : B ≤ w.heap.size)
    (h : ∀ A' c' L w', Hid (L = l ++ l') → Own C M w' B e (.slice A' L.length c') L → Below B w w' → w.grownBy w' v.ownBlock → ((Value.slice A' L.length c').ownBlock = v.ownBlock ∨ (Value.slice A' L.length c').ownBlock = some w.heap.size) →
      K (a.put o.dst (.slice A' L.length c')) w') : o.wp P a w K Q := by
  obtain ⟨i, z, hi, hz, h1, h2, h3⟩ := T.hi
  obtain ⟨A, n, c, xs, rfl, hn, hc, hm, he, ha⟩ := hr
  obtain ⟨v', w', hrun, h5, h6, h7⟩ := run_append_Own (P := P) C t o.type e i z bytes T.ht hi hz h1 h2 h3 hown A n c xs he hn
    (fun h0 => by obtain ⟨b, off, rfl, _, _, hcell⟩ := ha h0; exact ⟨b, off, rfl, hcell⟩) h63 hbytes hbase
  obtain ⟨A', c', rfl, _⟩ := h5.shape
  unfold Oper.wp execOp
  simp only [ho, resolve, invoke, builtin, Sem.run_bind, Sem.run_pure, Result.andThen_ok, List.map_toArray, List.map_cons, List.map_nil, hs, hx, hrun]
  exact h A' c' _ w' (Lib.hid rfl) h5 ((Below.refl _ _).grown h6 hbase fun k hk => hown.base k hk) h6 h7
/-- append of one element that has been laid in a block of its own. -/
theorem wp_push_Own (T : SlT P C.n t e bytes) (s x : Operand)
    (ho : o.op = .call { callee := .builtin .append, args := #[s, x], argTypes := #[t, t] })
    {v : Value} (hs : a.eval s = v) (hown : Own C M w B e v l) {cs : List Value} {y : α} (hx : a.eval x = .slice (some ⟨w.heap.size, 0, none⟩) 1 1)
    (hr : C.rd (fun b => M b ∨ v.ownBlock = some b) w cs y) (hM : ∀ b, M b → b < w.heap.size)
    (h63 : l.length + 1 ≤ maxLen) (hbytes : (l.length + 1) * bytes ≤ 140737488355328) (hbase : B ≤ w.heap.size)
    (h : ∀ A' c' L w', Hid (L = l ++ [y]) → Own C M w' B e (.slice A' L.length c') L → Below B w w' → w.grownBy w' v.ownBlock → ((Value.slice A' L.length c').ownBlock = v.ownBlock ∨ (Value.slice A' L.length c').ownBlock = some (w.heap.size + 1)) →
      K (a.put o.dst (.slice A' L.length c')) w') : o.wp P a (w.alloc (.cells cs.toArray e)) K Q := by
  have hal : Below w.heap.size w (w.alloc (.cells cs.toArray e)) := (Below.refl _ _).alloc (Nat.le_refl _) _
  refine wp_append_Own C T s x ho hs (hown.ext hal) hx (SlR.built e hr fun b hb => hb.elim (hM b) (hown.lt b)) h63 hbytes (by simp; omega) fun A' c' L w' hL h1 h2 h3 h4 => ?_
  refine h A' c' L w' hL h1 ((hal.mono hbase).trans h2) ⟨h3.os, h3.tape, h3.output, Nat.le_trans hal.size h3.size, fun k hk hne => (h3.block k (by simp; omega) hne).trans (hal.block k hk)⟩ ?_
  rw [World.size_alloc] at h4
  exact h4
end
end Go.Proofs.YtngdfjlodblagaaGreatDoor
/-
  Regions that draw their order: what a load needs is owed only behind operations that do not wait for it. No program is named here.
-/
namespace Go.Proofs.YtngdfjlodblagaaGreatDoor
open Go.RowKit

section
variable {P : Program} {Q : Exit → Act → World → Prop} {ops : Array Oper} {md : Region.Mode} {S : World → Prop} {D : Nat → Bool}

/-- Any order; S is owed behind each operation outside D. -/
def anyD (P : Program) (md : Region.Mode) (ops : Array Oper) (Q : Exit → Act → World → Prop) (S : World → Prop) (D : Nat → Bool) : Nat → Array Bool → Act → World → Prop
  | 0, listed, a, w => Region.ready md ops listed = [] ∧ Q .normal a w
  | fuel + 1, listed, a, w => (Region.ready md ops listed = [] → Q .normal a w) ∧
      ∀ i ∈ Region.ready md ops listed, wpOp P ops Q i (fun a' w' => (D i = false → S w') ∧ anyD P md ops Q S D fuel (listed.setIfInBounds i true) a' w') a w

theorem any_of_D : ∀ (fuel : Nat) (listed : Array Bool) (a : Act) (w : World), anyD P md ops Q S D fuel listed a w → wpAny P md ops Q fuel listed a w
  | 0, _, _, _, h => h
  | fuel + 1, _, _, _, h => ⟨h.1, fun i hi => wpOp_mono (fun a' w' h' => any_of_D fuel _ a' w' h'.2) (h.2 i hi)⟩

theorem anyD_first {i : Nat} {oi : Oper} {v : Value} (hi : ops[i]? = some oi) (hsel : ∀ (j : Nat) (o : Oper) cs b, ops[j]? = some o → o.op ≠ .select cs b)
    (hQ : ∀ c a w, Q (.panic c) (a.put oi.dst v) w → Q (.panic c) a w)
    (hdep : ∀ (j : Nat) (oj : Oper), ops[j]? = some oj → D j = true → j ≠ i → ∃ e ∈ oj.after, Region.binds md e = true ∧ (e.on = i ∨ D e.on = true)) :
    ∀ (fuel : Nat) (listed : Array Bool) (a : Act) (w : World),
      (∀ (j : Nat) (oj : Oper), ops[j]? = some oj → j ≠ i → listed.getD j true = false → (∀ e ∈ oj.after, Region.binds md e = true → e.on ≠ i) → oi.apart ops oj = true) →
      (∀ j, listed.getD j false = true → D j = false) →
      i ∈ Region.ready md ops listed → YieldsIf P ops S oi v a → S w →
      anyD P md ops Q S D fuel (listed.setIfInBounds i true) (a.put oi.dst v) w → anyD P md ops Q S D (fuel + 1) listed a w := by
  intro fuel
  induction fuel with
  | zero =>
    intro listed a w _ _ hr hy hS H
    refine ⟨fun h => absurd hr (by rw [h]; simp), fun j hj => ?_⟩
    by_cases hji : j = i
    · subst hji
      exact hy.wpOp hi hS ⟨fun _ => hS, H⟩
    · have hm := ready_mono hj hji
      rw [H.1] at hm
      cases hm
  | succ fuel ih =>
    intro listed a w hfree hlist hr hy hS H
    refine ⟨fun h => absurd hr (by rw [h]; simp), fun j hj => ?_⟩
    by_cases hji : j = i
    · subst hji
      exact hy.wpOp hi hS ⟨fun _ => hS, H⟩
    · have h1 := H.2 j (ready_mono hj hji)
      obtain ⟨hun, oj, hoj, hall⟩ := mem_ready.1 hj
      have hi0 := (mem_ready.1 hr).1
      have hli : listed.getD i false = true → False := fun h => by
        rcases Nat.lt_or_ge i listed.size with h' | h'
        · simp [h'] at h hi0; rw [h] at hi0; cases hi0
        · simp [Array.getElem?_eq_none h'] at h
      have hnot : ∀ e ∈ oj.after, Region.binds md e = true → e.on ≠ i := fun e he hb heq => hli (heq ▸ hall e he hb)
      have hDj : D j = false := by
        cases hd : D j with
        | false => rfl
        | true =>
          obtain ⟨e, he, hb, hor⟩ := hdep j oj hoj hd hji
          rcases hor with h' | h'
          · exact absurd h' (hnot e he hb)
          · rw [hlist _ (hall e he hb)] at h'; cases h'
      have h2 := wpOp_putIf hoj (hfree j oj hoj hji hun hnot) (fun cs b => hsel i oi cs b hi) (fun cs b => hsel j oj cs b hoj) hQ hy h1
      refine wpOp_mono (fun a' w' h3 => ⟨fun _ => h3.2.1 hDj, ih (listed.setIfInBounds j true) a' w' (fun k ok hk hki hku hno => hfree k ok hk hki ?_ hno) (fun k hk => ?_) (ready_mono hr (Ne.symm hji)) h3.1 (h3.2.1 hDj) ?_⟩) h2
      · by_cases hjk : j = k
        · subst hjk; exact hun
        · rwa [getD_set_ne true hjk] at hku
      · by_cases hjk : j = k
        · subst hjk; exact hDj
        · rw [getD_set_ne false hjk] at hk; exact hlist k hk
      · rw [Array.setIfInBounds_comm _ _ hji]
        exact h3.2.2

/-- D's operations wait for number i, each by a way inside D. -/
def behind (md : Region.Mode) (ops : Array Oper) (i : Nat) (D : Nat → Bool) : Bool :=
  (List.range ops.size).all fun j => !D j || j == i || match ops[j]? with
    | some o => o.after.any fun e => Region.binds md e && (e.on == i || D e.on)
    | none => false
def outsideD (listed : Array Bool) (D : Nat → Bool) : Bool := (List.range listed.size).all fun j => !listed.getD j false || !D j
theorem behind_spec {i : Nat} (h : behind md ops i D = true) (j : Nat) (oj : Oper) (ho : ops[j]? = some oj) (hd : D j = true) (hne : j ≠ i) :
    ∃ e ∈ oj.after, Region.binds md e = true ∧ (e.on = i ∨ D e.on = true) := by
  unfold behind at h
  rw [List.all_eq_true] at h
  have h1 := h j (List.mem_range.2 (Array.getElem?_eq_some_iff.1 ho).1)
  simp only [hd, Bool.not_true, Bool.false_or, ho] at h1
  have h2 : (j == i) = false := by simpa using hne
  rw [h2, Bool.false_or, Array.any_eq_true'] at h1
  obtain ⟨e, he, h3⟩ := h1
  rw [Bool.and_eq_true, Bool.or_eq_true, beq_iff_eq] at h3
  exact ⟨e, he, h3⟩
theorem outsideD_spec {listed : Array Bool} (h : outsideD listed D = true) (j : Nat) (hj : listed.getD j false = true) : D j = false := by
  unfold outsideD at h
  rw [List.all_eq_true] at h
  have hlt : j < listed.size := Classical.byContradiction fun h' => by
    simp [Array.getElem?_eq_none (Nat.le_of_not_lt h')] at hj
  have h1 := h j (List.mem_range.2 hlt)
  rw [hj] at h1
  simpa using h1

theorem anyD_light {i fuel : Nat} {o : Oper} {v : Value} {listed : Array Bool} {a : Act} {w : World} (ho : ops[i]? = some o) (hs : Region.noSelect ops = true) (hf : Region.free md ops listed i = true)
    (hr : (Region.ready md ops listed).contains i = true) (hb : behind md ops i D = true) (hl : outsideD listed D = true)
    (hQ : ∀ c a w, Q (.panic c) (a.put o.dst v) w → Q (.panic c) a w) (hy : YieldsIf P ops S o v a) (hS : S w)
    (h : anyD P md ops Q S D fuel (listed.setIfInBounds i true) (a.put o.dst v) w) : anyD P md ops Q S D (fuel + 1) listed a w :=
  anyD_first ho (Region.noSelect_spec hs) hQ (behind_spec hb) fuel listed a w (Region.free_spec ho hf) (outsideD_spec hl) (by simpa using hr) hy hS h
theorem anyD_one {i fuel : Nat} {o : Oper} {listed : Array Bool} {a : Act} {w : World} (hr : Region.ready md ops listed = [i]) (ho : ops[i]? = some o) (hg : o.guard = none)
    (h : ∀ K : Act → World → Prop, (∀ a w, (D i = false → S w) → anyD P md ops Q S D fuel (listed.setIfInBounds i true) a w → K a w) → o.wp P a w K Q) : anyD P md ops Q S D (fuel + 1) listed a w := by
  refine ⟨fun h0 => absurd (hr ▸ h0) (by simp), fun j hj => ?_⟩
  rw [hr] at hj
  obtain rfl : j = i := by simpa using hj
  unfold wpOp
  rw [ho]
  have hw : Region.wanted o (yielded ops a.tmps) = true := by simp [Region.wanted, hg]
  simp only [hw, if_true]
  exact .inl (h _ fun a w h1 h2 => ⟨h1, h2⟩)
theorem anyD_oneG {i fuel : Nat} {o : Oper} {listed : Array Bool} {a : Act} {w : World} (hr : Region.ready md ops listed = [i]) (ho : ops[i]? = some o) (hw : Region.wanted o (yielded ops a.tmps) = true)
    (h : ∀ K : Act → World → Prop, (∀ a w, (D i = false → S w) → anyD P md ops Q S D fuel (listed.setIfInBounds i true) a w → K a w) → o.wp P a w K Q) : anyD P md ops Q S D (fuel + 1) listed a w := by
  refine ⟨fun h0 => absurd (hr ▸ h0) (by simp), fun j hj => ?_⟩
  rw [hr] at hj
  obtain rfl : j = i := by simpa using hj
  unfold wpOp
  rw [ho]
  simp only [hw, if_true]
  exact .inl (h _ fun a w h1 h2 => ⟨h1, h2⟩)
theorem anyD_done {listed : Array Bool} {a : Act} {w : World} (hr : Region.ready md ops listed = []) (h : Q .normal a w) : ∀ fuel, anyD P md ops Q S D fuel listed a w
  | 0 => ⟨hr, h⟩
  | _ + 1 => ⟨fun _ => h, by rw [hr]; simp⟩
theorem wpIn_region_D_round {l n id : Nat} {a : Act} {w : World} (S : World → Prop) (D : Nat → Bool) (hm : P.follows .mixedOrders = true) (hnd : noDefer ops = true) (hL : ¬ LetsOut Q)
    (h : anyD P .any ops Q S D ops.size (Array.replicate ops.size false) a w.drew) : (Code.region id ops true).wpIn (Fence.wide.inRound l) n P Q a w :=
  wpIn_region_any hm (any_inRound hnd hL _ _ _ _ (any_of_D _ _ _ _ h))
theorem wp_region_D {id : Nat} {a : Act} {w : World} (S : World → Prop) (D : Nat → Bool) (hm : P.follows .mixedOrders = true)
    (h : anyD P .any ops Q S D ops.size (Array.replicate ops.size false) a w.drew) : (Code.region id ops true).wp P Q a w :=
  wp_region_any hm (any_of_D _ _ _ _ h)
end
end Go.Proofs.YtngdfjlodblagaaGreatDoor

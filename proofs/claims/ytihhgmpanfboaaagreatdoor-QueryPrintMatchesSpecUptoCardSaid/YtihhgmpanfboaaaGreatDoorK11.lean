/-
  Contracts and plain facts, one after another: Indexes: a text added, a text removed; plain; Searching: what a query finds; plain; What the laws of searching say, plain: the logic of queries; other texts do not matter; what is added is found; The texts of an index, place by place, and what a query matches there; plain.
-/
import Derived.Test.YtihhgmpanfboaaaGreatDoorK2
namespace Go.Proofs.YtihhgmpanfboaaaGreatDoor
namespace Ix
set_option linter.unusedVariables false
def insId (ids : List Int) (id : Int) : List Int := ids.filter (fun n => decide (n < id)) ++ id :: ids.filter (fun n => decide (id < n))
def addF (x : Idx) (id : Int) (s : List Str) : Idx := (insId x.1 id, putAll id s 0 x.2)
def removeF (x : Idx) (id : Int) : Idx := (x.1.filter (fun n => !(n == id)), removeT id x.2)
theorem split_at {ids : List Int} {id : Int} {k : Nat} (hk : k ≤ ids.length) (h1 : ∀ (m : Nat) (h : m < ids.length), m < k → ids[m] < id) (h2 : ∀ (m : Nat) (h : m < ids.length), k ≤ m → id < ids[m]) :
    ids.filter (fun n => decide (n < id)) = ids.take k ∧ ids.filter (fun n => decide (id < n)) = ids.drop k := by
  have ht : ∀ n ∈ ids.take k, n < id := fun n hn => by
    obtain ⟨m, hm, rfl⟩ := List.mem_iff_getElem.1 hn
    rw [List.length_take] at hm
    rw [List.getElem_take]
    exact h1 m (by omega) (by omega)
  have hd : ∀ n ∈ ids.drop k, id < n := fun n hn => by
    obtain ⟨m, hm, rfl⟩ := List.mem_iff_getElem.1 hn
    rw [List.length_drop] at hm
    rw [List.getElem_drop]
    exact h2 _ (by omega) (by omega)
  constructor
  · conv => lhs; rw [← List.take_append_drop k ids]
    rw [List.filter_append, List.filter_eq_self.2 fun n hn => by simpa using ht n hn, List.filter_eq_nil_iff.2 fun n hn => by have := hd n hn; simp; omega, List.append_nil]
  · conv => lhs; rw [← List.take_append_drop k ids]
    rw [List.filter_append, List.filter_eq_nil_iff.2 fun n hn => by have := ht n hn; simp; omega, List.filter_eq_self.2 fun n hn => by simpa using hd n hn, List.nil_append]
theorem insId_at {ids : List Int} {id : Int} {k : Nat} (hk : k ≤ ids.length) (h1 : ∀ (m : Nat) (h : m < ids.length), m < k → ids[m] < id) (h2 : ∀ (m : Nat) (h : m < ids.length), k ≤ m → id < ids[m]) : insId ids id = ids.take k ++ id :: ids.drop k := by
  obtain ⟨a, b⟩ := split_at hk h1 h2
  unfold insId
  rw [a, b]
theorem mem_insId {ids : List Int} {id n : Int} : n ∈ insId ids id ↔ n = id ∨ n ∈ ids := by
  unfold insId
  simp only [List.mem_append, List.mem_cons, List.mem_filter, decide_eq_true_eq]
  constructor
  · rintro (⟨h, _⟩ | h | ⟨h, _⟩)
    · exact .inr h
    · exact .inl h
    · exact .inr h
  · rintro (h | h)
    · exact .inr (.inl h)
    · rcases Int.lt_trichotomy n id with e | e | e
      · exact .inl ⟨h, e⟩
      · exact .inr (.inl e)
      · exact .inr (.inr ⟨h, e⟩)
theorem insId_sorted {ids : List Int} {id : Int} (h : ids.Pairwise (· < ·)) : (insId ids id).Pairwise (· < ·) := by
  unfold insId
  rw [List.pairwise_append]
  refine ⟨h.sublist List.filter_sublist, List.pairwise_cons.2 ⟨fun n hn => by simpa using (List.mem_filter.1 hn).2, h.sublist List.filter_sublist⟩, fun a ha b hb => ?_⟩
  have h1 : a < id := by simpa using (List.mem_filter.1 ha).2
  rcases List.mem_cons.1 hb with e | e
  · rw [e]; exact h1
  · have h2 : id < b := by simpa using (List.mem_filter.1 e).2
    omega
theorem filter_parts {ids : List Int} {id : Int} (hid : id ∉ ids) (h : ids.Pairwise (· < ·)) : ids.filter (fun n => decide (n < id)) ++ ids.filter (fun n => decide (id < n)) = ids := by
  induction ids with
  | nil => rfl
  | cons a r ih =>
    rw [List.pairwise_cons] at h
    have hne : a ≠ id := fun e => hid (by rw [e]; exact List.mem_cons_self)
    have hr : id ∉ r := fun e => hid (List.mem_cons_of_mem _ e)
    by_cases ha : a < id
    · have : ¬ id < a := by omega
      simp [ha, this, ih hr h.2]
    · have ha2 : id < a := by omega
      have : r.filter (fun n => decide (n < id)) = [] := List.filter_eq_nil_iff.2 fun n hn => by have := h.1 n hn; simp; omega
      have h3 : r.filter (fun n => decide (id < n)) = r := List.filter_eq_self.2 fun n hn => by have := h.1 n hn; simp; omega
      simp [ha, ha2, this, h3]
theorem insId_len {ids : List Int} {id : Int} (hid : id ∉ ids) (h : ids.Pairwise (· < ·)) : (insId ids id).length = ids.length + 1 := by
  have := congrArg List.length (filter_parts hid h)
  rw [List.length_append] at this
  unfold insId
  rw [List.length_append, List.length_cons]
  omega
theorem remove_insId {ids : List Int} {id : Int} (hid : id ∉ ids) (h : ids.Pairwise (· < ·)) : (insId ids id).filter (fun n => !(n == id)) = ids := by
  conv => rhs; rw [← filter_parts hid h]
  unfold insId
  rw [List.filter_append, List.filter_cons, List.filter_filter, List.filter_filter]
  simp only [beq_self_eq_true, Bool.not_true, Bool.false_eq_true, if_false]
  congr 1
  · exact List.filter_congr fun n _ => by by_cases e : n < id <;> simp [e]; omega
  · exact List.filter_congr fun n _ => by by_cases e : id < n <;> simp [e]; omega
theorem sorted_ext {a b : List Int} (ha : a.Pairwise (· < ·)) (hb : b.Pairwise (· < ·)) (h : ∀ n, n ∈ a ↔ n ∈ b) : a = b := by
  refine List.Perm.eq_of_pairwise (le := fun x y => x < y) (fun x y _ _ h1 h2 => by omega) ha hb ?_
  exact (List.perm_ext_iff_of_nodup (ha.imp fun h => by omega) (hb.imp fun h => by omega)).2 h
theorem insId_comm {ids : List Int} {a b : Int} (h : ids.Pairwise (· < ·)) : insId (insId ids a) b = insId (insId ids b) a := by
  refine sorted_ext (insId_sorted (insId_sorted h)) (insId_sorted (insId_sorted h)) fun n => ?_
  simp only [mem_insId]
  constructor <;> rintro (h | h | h) <;> simp [h]
theorem eraseIdx_filter {ids : List Int} (h : ids.Pairwise (· < ·)) {k : Nat} (hk : k < ids.length) : ids.eraseIdx k = ids.filter fun n => !(n == ids[k]) := by
  have hp := List.pairwise_iff_getElem.1 h
  refine sorted_ext (h.sublist (List.eraseIdx_sublist _ _)) (h.sublist List.filter_sublist) fun n => ?_
  rw [List.mem_eraseIdx_iff_getElem, List.mem_filter]
  constructor
  · rintro ⟨i, hi, hik, rfl⟩
    refine ⟨List.getElem_mem _, ?_⟩
    rcases Nat.lt_or_gt_of_ne hik with e | e
    · have := hp i k hi hk e; simp; omega
    · have := hp k i hk hi e; simp; omega
  · rintro ⟨h1, h2⟩
    obtain ⟨i, hi, rfl⟩ := List.mem_iff_getElem.1 h1
    exact ⟨i, hi, fun e => by subst e; simp at h2, rfl⟩
/-! ### members and contents -/
theorem cont_mem {ts : List Term} (h : Wf ts) {t : Term} (ht : t ∈ ts) {p : Post} (hp : p ∈ t.2) : cont ts t.1 p.1 = p.2 := by
  unfold cont
  rw [Al.look_of_mem tot_str h.srt (show (t.1, t.2) ∈ ts from ht)]
  show (Al.look t.2 p.1).getD [] = _
  rw [Al.look_of_mem totI (h.post t ht).2.1 (show (p.1, p.2) ∈ t.2 from hp)]
  rfl
theorem mem_cont {ts : List Term} {w : Str} {i : Int} (h : cont ts w i ≠ []) : ∃ t ∈ ts, t.1 = w ∧ ∃ p ∈ t.2, p.1 = i ∧ p.2 = cont ts w i := by
  unfold cont at h ⊢
  cases hw : Al.look ts w with
  | none => rw [hw] at h; exact absurd rfl h
  | some ps =>
    rw [hw] at h
    simp only [Option.bind_some] at h ⊢
    cases hq : Al.look ps i with
    | none => rw [hq] at h; exact absurd rfl h
    | some q => exact ⟨_, Al.look_mem hw, rfl, _, Al.look_mem hq, rfl, rfl⟩
theorem occ_range (w : Str) : ∀ (s : List Str) (n : Nat), (occ w s n).Pairwise (· < ·) ∧ ∀ m ∈ occ w s n, (n : Int) ≤ m ∧ m < n + s.length
  | [], n => by simp [occ]
  | a :: s, n => by
    have ih := occ_range w s (n + 1)
    rw [occ]
    split
    · refine ⟨List.pairwise_cons.2 ⟨fun m hm => by have := (ih.2 m hm).1; omega, ih.1⟩, fun m hm => ?_⟩
      rcases List.mem_cons.1 hm with e | e
      · simp; omega
      · have := ih.2 m e; simp; omega
    · exact ⟨ih.1, fun m hm => by have := ih.2 m hm; simp; omega⟩
theorem occ_nil (w : Str) : ∀ (s : List Str) (n : Nat), occ w s n = [] ↔ w ∉ s
  | [], n => by simp [occ]
  | a :: s, n => by
    rw [occ]
    split
    · rename_i e; simp [e]
    · rename_i e
      rw [occ_nil w s (n + 1), List.mem_cons]
      simp only [not_or]
      exact ⟨fun h => ⟨fun e' => e e'.symm, h⟩, fun h => h.2⟩
theorem strange {x : Idx} (h : Canon x) {id : Int} (hid : id ∉ x.1) (w : Str) : cont x.2 w id = [] := by
  cases hc : cont x.2 w id with
  | nil => rfl
  | cons a r =>
    obtain ⟨t, ht, _, p, hp, e, _⟩ := mem_cont (ts := x.2) (w := w) (i := id) (by rw [hc]; simp)
    exact absurd (e ▸ ((h.post t ht).2.2 p hp).1) hid
theorem canon_add {x : Idx} (h : Canon x) {id : Int} {s : List Str} (h1 : 1 ≤ id ∧ id ≤ 1000000) (hid : id ∉ x.1) (hn : x.1.length < 300) (hs : ∀ w ∈ s, w ≠ [] ∧ w.length ≤ 8000) (hsl : s.length ≤ 1000000) (hm : (putAll id s 0 x.2).length ≤ 1000000) : Canon (addF x id s) := by
  have hwf := h.wf
  have hw' := Wf.putAll id s 0 hwf
  have hc := cont_putAll id s 0 hwf
  have key : ∀ t ∈ putAll id s 0 x.2, ∀ p ∈ t.2, (t.1 ≠ [] ∧ t.1.length ≤ 8000) ∧ p.1 ∈ insId x.1 id ∧ p.2.Pairwise (· < ·) ∧ ∀ n ∈ p.2, 0 ≤ n ∧ n ≤ 1000000 := by
    intro t ht p hp
    have e := cont_mem hw' ht hp
    have hne := (hw'.post t ht).2.2 p hp
    rw [hc] at e
    split at e
    · rename_i hi
      rw [strange h hid, List.nil_append] at e
      rw [← e] at hne ⊢
      have hmem : t.1 ∈ s := Classical.byContradiction fun hno => hne ((occ_nil _ _ _).2 hno)
      have ho := occ_range t.1 s 0
      exact ⟨hs _ hmem, mem_insId.2 (.inl hi), ho.1, fun n hn => by have := ho.2 n hn; omega⟩
    · rename_i hi
      rw [← e] at hne
      obtain ⟨t', ht', e1, p', hp', e2, e3⟩ := mem_cont hne
      have h2 := (h.post t' ht').2.2 p' hp'
      rw [e3, e] at h2
      exact ⟨by rw [← e1]; exact h.word t' ht', mem_insId.2 (.inr (e2 ▸ h2.1)), h2.2.2⟩
  refine ⟨by show (insId x.1 id).length ≤ 300; rw [insId_len hid h.ids]; omega, insId_sorted h.ids, fun n hn => ?_, hm, hw'.srt, fun t ht => ?_, fun t ht => ?_⟩
  · rcases mem_insId.1 hn with e | e
    · rw [e]; exact h1
    · exact h.idr n e
  · obtain ⟨hne, _, _⟩ := hw'.post t ht
    obtain ⟨p, r, e⟩ : ∃ p r, t.2 = p :: r := by cases h : t.2 with | nil => exact absurd h hne | cons p r => exact ⟨p, r, rfl⟩
    exact (key t ht p (by rw [e]; exact List.mem_cons_self)).1
  · obtain ⟨hne, hsr, hno⟩ := hw'.post t ht
    exact ⟨hne, hsr, fun p hp => ⟨(key t ht p hp).2.1, hno p hp, (key t ht p hp).2.2⟩⟩
theorem len_filter_lt {ids : List Int} (p : Int → Bool) : (ids.filter p).length ≤ ids.length := List.length_filter_le _ _
theorem canon_remove {x : Idx} (h : Canon x) (id : Int) : Canon (removeF x id) := by
  have hw' := h.wf.remove id
  have hc := cont_remove h.wf id
  have key : ∀ t ∈ removeT id x.2, ∀ p ∈ t.2, (t.1 ≠ [] ∧ t.1.length ≤ 8000) ∧ p.1 ∈ x.1.filter (fun n => !(n == id)) ∧ p.2.Pairwise (· < ·) ∧ ∀ n ∈ p.2, 0 ≤ n ∧ n ≤ 1000000 := by
    intro t ht p hp
    have e := cont_mem hw' ht hp
    have hne := (hw'.post t ht).2.2 p hp
    rw [hc] at e
    split at e
    · exact absurd e.symm hne
    · rename_i hi
      rw [← e] at hne
      obtain ⟨t', ht', e1, p', hp', e2, e3⟩ := mem_cont hne
      have h2 := (h.post t' ht').2.2 p' hp'
      rw [e3, e] at h2
      refine ⟨by rw [← e1]; exact h.word t' ht', List.mem_filter.2 ⟨e2 ▸ h2.1, by simpa using hi⟩, h2.2.2⟩
  refine ⟨?_, h.ids.sublist List.filter_sublist, fun n hn => h.idr n (List.mem_filter.1 hn).1, ?_, hw'.srt, fun t ht => ?_, fun t ht => ?_⟩
  · have := h.few
    have := List.length_filter_le (fun n => !(n == id)) x.1
    show (x.1.filter _).length ≤ 300
    omega
  · have := h.many
    have h2 : (removeT id x.2).length ≤ x.2.length := by
      unfold removeT
      refine Nat.le_trans (List.length_filter_le _ _) ?_
      rw [List.length_map]
      exact Nat.le_refl _
    show (removeT id x.2).length ≤ 1000000
    omega
  · obtain ⟨hne, _, _⟩ := hw'.post t ht
    obtain ⟨p, r, e⟩ : ∃ p r, t.2 = p :: r := by cases h : t.2 with | nil => exact absurd h hne | cons p r => exact ⟨p, r, rfl⟩
    exact (key t ht p (by rw [e]; exact List.mem_cons_self)).1
  · obtain ⟨hne, hsr, hno⟩ := hw'.post t ht
    exact ⟨hne, hsr, fun p hp => ⟨(key t ht p hp).2.1, hno p hp, (key t ht p hp).2.2⟩⟩
/-! ### the laws -/
theorem remove_add {x : Idx} (h : Canon x) {id : Int} (hid : id ∉ x.1) (s : List Str) : removeF (addF x id s) id = x := by
  unfold removeF addF
  rw [remove_insId hid h.ids, remove_put h.wf id s (strange h hid)]
theorem add_comm {x : Idx} (h : Canon x) {a b : Int} (s t : List Str) (hab : a ≠ b) : addF (addF x a s) b t = addF (addF x b t) a s := by
  unfold addF
  simp only
  rw [insId_comm h.ids, put_comm h.wf a b s t hab]
/-! ### how many terms there are -/
theorem upd_len {f : Option (List Post) → List Post} {w : Str} : ∀ {ts : List Term}, Al.Sorted ltS ts → (Al.upd ltS f w ts).length = ts.length + if Al.look ts w = none then 1 else 0
  | [], _ => by simp [Al.upd, Al.look]
  | t :: ts, h => by
    have h0 := h
    unfold Al.Sorted at h
    rw [List.pairwise_cons] at h
    rw [Al.upd]
    split
    · rename_i hlt
      have hne : ¬ t.1 = w := tot_str.ne hlt
      rw [List.length_cons, upd_len h.2, Al.look, if_neg hne, List.length_cons]
      omega
    · rename_i hlt
      split
      · rename_i e
        rw [Al.look, if_pos e]
        simp
      · rename_i e
        have hgt : ltS w t.1 = true := by
          cases hh : ltS w t.1 with
          | true => rfl
          | false => exact absurd (tot_str.total _ _ (by simpa using hlt) hh) e
        have hn : Al.look (t :: ts) w = none := Al.look_none fun q hq e2 => by
          rcases List.mem_cons.1 hq with e3 | e3
          · subst e3; exact e e2
          · exact tot_str.ne (tot_str.trans _ _ _ hgt (h.1 _ e3)) e2.symm
        rw [hn]
        simp
/-- how many words are new -/
def fresh (ts : List Term) : List Str → List Str → Nat
  | _, [] => 0
  | seen, w :: s => (if Al.look ts w = none ∧ w ∉ seen then 1 else 0) + fresh ts (seen ++ [w]) s
theorem look_putT {id place : Int} {ts : List Term} (h : Wf ts) (w w' : Str) : Al.look (putT id place w ts) w' = none ↔ Al.look ts w' = none ∧ w' ≠ w := by
  unfold putT
  rw [Al.look_upd tot_str h.srt]
  by_cases e : w' = w
  · simp [e]
  · simp [e]
theorem putAll_len (id : Int) (ts0 : List Term) : ∀ (s : List Str) (n : Nat) (seen : List Str) {ts : List Term}, Wf ts → (∀ w, Al.look ts w = none ↔ Al.look ts0 w = none ∧ w ∉ seen) → (putAll id s n ts).length = ts.length + fresh ts0 seen s
  | [], n, seen, ts, _, _ => rfl
  | w :: s, n, seen, ts, h, hl => by
    rw [putAll, putAll_len id ts0 s (n + 1) (seen ++ [w]) (h.put id n w) fun w' => by
      rw [look_putT h, hl w', List.mem_append, List.mem_singleton]
      constructor
      · rintro ⟨⟨a, b⟩, c⟩; exact ⟨a, fun e => e.elim b c⟩
      · rintro ⟨a, b⟩; exact ⟨⟨a, fun e => b (.inl e)⟩, fun e => b (.inr e)⟩]
    rw [show (putT id n w ts).length = _ from upd_len h.srt, fresh]
    by_cases e : Al.look ts w = none
    · rw [if_pos e, if_pos ((hl w).1 e)]; omega
    · rw [if_neg e, if_neg fun e' => e ((hl w).2 e')]; omega
theorem fresh_le (ts : List Term) : ∀ (s seen : List Str), fresh ts seen s ≤ s.length
  | [], _ => Nat.le_refl _
  | w :: s, seen => by
    have := fresh_le ts s (seen ++ [w])
    rw [fresh, List.length_cons]
    split <;> omega
end Ix
end Go.Proofs.YtihhgmpanfboaaaGreatDoor
namespace Go.Proofs.YtihhgmpanfboaaaGreatDoor
set_option linter.unusedVariables false
namespace Sr
open Q
/-- where the stem of a word occurs in a text -/
def places (x : Ix.Idx) (word : Str) (id : Int) : List Int := Ix.cont x.2 (Sm.stem word) id
theorem places_eq (x : Ix.Idx) (word : Str) (id : Int) : places x word id = (Al.look ((Al.look x.2 (Sm.stem word)).getD []) id).getD [] := by
  unfold places Ix.cont
  cases Al.look x.2 (Sm.stem word) <;> rfl
def prefixF (x : Ix.Idx) (s : Str) (id : Int) : Bool := x.2.any fun t => s.isPrefixOf t.1 && t.2.any fun p => p.1 == id
/-- words at consecutive places, from one on -/
def rowAt (x : Ix.Idx) (id at_ : Int) : List Str → Int → Bool
  | [], _ => true
  | w :: l, k => (places x w id).contains (at_ + k) && rowAt x id at_ l (k + 1)
def phraseF (x : Ix.Idx) (l : List Str) (id : Int) : Bool := (places x (l.headD []) id).any fun a => rowAt x id a l 0
def nearF (x : Ix.Idx) (a b : Str) (most id : Int) : Bool := (places x a id).any fun i => (places x b id).any fun k => (!(k == i) && decide (k - i ≤ most)) && decide (i - k ≤ most)
def findsF : Nat → Ix.Idx → Q → Int → Bool
  | 0, _, _, _ => true
  | f + 1, x, q, id =>
    if q.kind = 2 then decide (0 < (places x q.text id).length)
    else if q.kind = 3 then prefixF x q.text id
    else if q.kind = 4 then phraseF x (splitS q.text) id
    else if q.kind = 5 then nearF x ((splitS q.text).headD []) ((splitS q.text).getD 1 []) q.num id
    else if q.kind = 6 then !(q.parts.any fun p => !findsF f x p id)
    else if q.kind = 7 then q.parts.any fun p => findsF f x p id
    else if q.kind = 8 then !findsF f x (q.parts.headD (.node 0 [] 0 [])) id
    else true
theorem any_same {α : Type} {l : List α} {f g : α → Bool} (h : ∀ a ∈ l, f a = g a) : l.any f = l.any g := by
  induction l with
  | nil => rfl
  | cons a l ih => rw [List.any_cons, List.any_cons, h a (.head _), ih fun b hb => h b (.tail _ hb)]
theorem findsF_fits : ∀ {f : Nat} {q : Q} (x : Ix.Idx) (id : Int), Fits f q → (q.kind = 8 → q.parts ≠ []) → (∀ p ∈ pre f q, p.kind = 8 → p.parts ≠ []) → findsF (f + 1) x q id = findsF f x q id
  | 0, q, x, id, h, _, _ => h.elim
  | f + 1, q, x, id, h, h8, ha => by
    have hp : ∀ p ∈ q.parts, findsF (f + 1) x p id = findsF f x p id := fun p hp => by
      have hin : ∀ r ∈ pre f p, r ∈ pre (f + 1) q := fun r hr => by
        rw [pre]; exact .tail _ (List.mem_flatMap.2 ⟨p, hp, hr⟩)
      have hself : p ∈ pre f p := by
        match f, h p hp with
        | f + 1, _ => rw [pre]; exact .head _
      exact findsF_fits x id (h p hp) (ha p (hin p hself)) fun r hr => ha r (hin r hr)
    rw [findsF, any_same hp, any_same fun p hq => by rw [hp p hq]]
    by_cases e : q.kind = 8
    · have hne := h8 e
      obtain ⟨a, l, hl⟩ : ∃ a l, q.parts = a :: l := by
        cases hh : q.parts with
        | nil => exact absurd hh hne
        | cons a l => exact ⟨a, l, rfl⟩
      have := hp a (by rw [hl]; exact .head _)
      have hh : q.parts.headD (.node 0 [] 0 []) = a := by rw [hl]; rfl
      rw [hh, this, findsF, hh]
    · rw [if_neg e, findsF, if_neg e]
/-- the texts that a query finds -/
def foundF (x : Ix.Idx) (q : Q) : List Int := x.1.filter fun id => findsF 8 x q id
def findR (x : Ix.Idx) (q : Q) : List Int × Int × Int :=
  if (Ix.indexF x).1 ≠ 0 then ([], Ix.indexF x) else if (fault q).1 ≠ 0 then ([], (fault q).1, -5) else (foundF x q, 0, 0)
theorem notempty {q : Q} (h : (fault q).1 = 0) : ∀ p ∈ pre 8 q, p.kind = 8 → p.parts ≠ [] := fun p hp hk hn => by
  have he := (fault_zero.1 h).2.2 p hp
  unfold errOf at he
  rw [hk, hn] at he
  simp [least] at he
theorem pre_self {f : Nat} {q : Q} (h : Fits f q) : q ∈ pre f q := by
  match f, h with
  | f + 1, _ => rw [pre]; exact .head _
/-- a valid query finds the same at all levels that are enough -/
theorem finds_up {q : Q} (h : (fault q).1 = 0) {f : Nat} (hf : 8 ≤ f) (x : Ix.Idx) (id : Int) : findsF f x q id = findsF 8 x q id := by
  have hg := fault_zero.1 h
  have key : ∀ n, Fits (8 + n) q ∧ pre (8 + n) q = pre 8 q ∧ findsF (8 + n) x q id = findsF 8 x q id := by
    intro n
    induction n with
    | zero => exact ⟨hg.1, rfl, rfl⟩
    | succ n ih =>
      obtain ⟨h1, h2, h3⟩ := ih
      have hne := notempty h
      refine ⟨h1.succ, (pre_fits h1).trans h2, (findsF_fits x id h1 (hne q (pre_self hg.1)) (by rw [h2]; exact hne)).trans h3⟩
  obtain ⟨n, rfl⟩ : ∃ n, f = 8 + n := ⟨f - 8, by omega⟩
  exact (key n).2.2
end Sr
end Go.Proofs.YtihhgmpanfboaaaGreatDoor
namespace Go.Proofs.YtihhgmpanfboaaaGreatDoor
set_option linter.unusedVariables false
namespace Sr
open Q
theorem prefix_iff {x : Ix.Idx} (h : Ix.Wf x.2) (s : Str) (id : Int) : prefixF x s id = true ↔ ∃ w, s.isPrefixOf w = true ∧ Ix.cont x.2 w id ≠ [] := by
  unfold prefixF
  rw [List.any_eq_true]
  constructor
  · rintro ⟨t, ht, hb⟩
    rw [Bool.and_eq_true, List.any_eq_true] at hb
    obtain ⟨h1, p, hp, h2⟩ := hb
    have e : p.1 = id := by simpa using h2
    refine ⟨t.1, h1, ?_⟩
    rw [← e, Ix.cont_mem h ht hp]
    exact (h.2 t ht).2.2 p hp
  · rintro ⟨w, h1, h2⟩
    obtain ⟨t, ht, rfl, p, hp, e, _⟩ := Ix.mem_cont h2
    refine ⟨t, ht, ?_⟩
    rw [Bool.and_eq_true, List.any_eq_true]
    exact ⟨h1, p, hp, by simpa using e⟩
/-- a query finds alike where the places are alike -/
theorem finds_same {x y : Ix.Idx} (hx : Ix.Wf x.2) (hy : Ix.Wf y.2) {id : Int} (h : ∀ w, Ix.cont x.2 w id = Ix.cont y.2 w id) : ∀ (f : Nat) (q : Q), findsF f x q id = findsF f y q id
  | 0, _ => rfl
  | f + 1, q => by
    have hp : ∀ w, places x w id = places y w id := fun w => h _
    have hpre : prefixF x q.text id = prefixF y q.text id := by
      have : prefixF x q.text id = true ↔ prefixF y q.text id = true := by
        rw [prefix_iff hx, prefix_iff hy]
        simp only [h]
      exact Bool.eq_iff_iff.2 this
    have hrow : ∀ (l : List Str) (a k : Int), rowAt x id a l k = rowAt y id a l k := by
      intro l
      induction l with
      | nil => intro a k; rfl
      | cons w l ih => intro a k; rw [rowAt, rowAt, hp, ih]
    have hph : phraseF x (splitS q.text) id = phraseF y (splitS q.text) id := by
      unfold phraseF
      rw [hp]
      exact any_same fun a _ => hrow _ _ _
    have hne : ∀ a b, nearF x a b q.num id = nearF y a b q.num id := fun a b => by unfold nearF; rw [hp, hp]
    have hr := fun p => finds_same hx hy h f p
    rw [findsF, findsF, hp, hpre, hph, hne]
    simp only [hr]
/-- the logic -/
theorem found_mem {x : Ix.Idx} {q : Q} {id : Int} (h : id ∈ x.1) : (foundF x q).contains id = findsF 8 x q id := by
  unfold foundF
  rw [Bool.eq_iff_iff, List.contains_iff_mem, List.mem_filter]
  simp [h]
theorem part_fits {q p : Q} (h : (fault q).1 = 0) (hp : p ∈ q.parts) (h' : (fault p).1 = 0) (x : Ix.Idx) (id : Int) : findsF 7 x p id = findsF 8 x p id := by
  have hf : Fits 7 p := (fault_zero.1 h).1 p hp
  have hne := notempty h'
  exact (findsF_fits x id hf (hne p (pre_self (fault_zero.1 h').1)) fun r hr => hne r (by rw [pre_fits hf]; exact hr)).symm
theorem obeys {x : Ix.Idx} {p q : Q} (hp : (fault p).1 = 0) (hq : (fault q).1 = 0) (h1 : (fault (.node 8 [] 0 [p])).1 = 0) (h2 : (fault (.node 6 [] 0 [p, q])).1 = 0) (h3 : (fault (.node 7 [] 0 [p, q])).1 = 0) (id : Int) :
    findsF 8 x (.node 8 [] 0 [p]) id = !findsF 8 x p id ∧ findsF 8 x (.node 6 [] 0 [p, q]) id = (findsF 8 x p id && findsF 8 x q id) ∧ findsF 8 x (.node 7 [] 0 [p, q]) id = (findsF 8 x p id || findsF 8 x q id) := by
  have a1 := part_fits h1 (p := p) (by simp) hp x id
  have a2 := part_fits h2 (p := p) (by simp) hp x id
  have a3 := part_fits h2 (p := q) (by simp) hq x id
  refine ⟨?_, ?_, ?_⟩
  · rw [show (8 : Nat) = 7 + 1 from rfl, findsF]
    simp [a1]
  · rw [show (8 : Nat) = 7 + 1 from rfl, findsF]
    simp [a2, a3]
  · rw [show (8 : Nat) = 7 + 1 from rfl, findsF]
    simp [a2, a3]
/-- other texts -/
theorem others {x : Ix.Idx} (h : Ix.Canon x) {id i : Int} (hi : i ≠ id) (s : List Str) (hc : Ix.Canon (Ix.addF x id s)) (q : Q) : findsF 8 (Ix.addF x id s) q i = findsF 8 x q i :=
  finds_same hc.wf h.wf (fun w => by
    show Ix.cont (Ix.putAll id s 0 x.2) w i = _
    rw [Ix.cont_putAll id s 0 h.wf, if_neg hi]) 8 q
theorem others_len {x : Ix.Idx} (h : Ix.Canon x) {id : Int} (hid : id ∉ x.1) (s : List Str) (hc : Ix.Canon (Ix.addF x id s)) (q : Q) : (foundF (Ix.addF x id s) q).length ≤ (foundF x q).length + 1 := by
  unfold foundF
  have hs : ∀ l : List Int, (∀ i ∈ l, i ≠ id) → l.filter (fun i => findsF 8 (Ix.addF x id s) q i) = l.filter (fun i => findsF 8 x q i) := fun l hl => List.filter_congr fun i hi => others h (hl i hi) s hc q
  show ((Ix.insId x.1 id).filter _).length ≤ _
  have e := Ix.filter_parts hid h.ids
  have e2 := congrArg (fun l => (l.filter fun i => findsF 8 x q i).length) e
  unfold Ix.insId
  simp only [List.filter_append, List.length_append, List.filter_cons] at e2 ⊢
  rw [hs _ (fun i hi => by have := (List.mem_filter.1 hi).2; intro e; subst e; simp at this), hs _ (fun i hi => by have := (List.mem_filter.1 hi).2; intro e; subst e; simp at this)]
  split
  · rw [List.length_cons]; omega
  · omega
end Sr
end Go.Proofs.YtihhgmpanfboaaaGreatDoor
namespace Go.Proofs.YtihhgmpanfboaaaGreatDoor
set_option linter.unusedVariables false
namespace Sr
open Q
/-- a list with a word at a place -/
def padded (l : List Str) (n : Nat) : List Str := l ++ List.replicate (n + 1 - l.length) []
def placedF (l : List Str) (n : Nat) (v : Str) : List Str :=
  if 5000 < n then l else (padded l n).set n ((if (padded l n).getD n [] = [] then [] else (padded l n).getD n [] ++ [32]) ++ v)
def placesF (l : List Str) (v : Str) (ns : List Int) : List Str := ns.foldl (fun l n => placedF l n.toNat v) l
def docP (id : Int) (v : Str) (l : List Str) (ps : List Ix.Post) : List Str := ps.foldl (fun l p => if p.1 = id then placesF l v p.2 else l) l
def docT (id : Int) (l : List Str) (ts : List Ix.Term) : List Str := ts.foldl (fun l t => docP id t.1 l t.2) l
def docF (x : Ix.Idx) (id : Int) : List Str := docT id [] x.2
/-- a word is at a place -/
def Has (l : List Str) (i : Nat) (w : Str) : Prop := ∃ h : i < l.length, w ∈ splitS l[i]
def standsF (l : List Str) (i : Nat) (w : Str) : Bool := decide (i < l.length) && (splitS (l.getD i [])).contains w
theorem stands_iff (l : List Str) (i : Nat) (w : Str) : standsF l i w = true ↔ Has l i w := by
  unfold standsF Has
  rw [Bool.and_eq_true, decide_eq_true_eq, List.contains_iff_mem]
  constructor
  · rintro ⟨h1, h2⟩; rw [Ix.getD_get h1] at h2; exact ⟨h1, h2⟩
  · rintro ⟨h1, h2⟩; refine ⟨h1, ?_⟩; rw [Ix.getD_get h1]; exact h2
theorem padded_len (l : List Str) (n : Nat) : (padded l n).length = max l.length (n + 1) := by
  unfold padded; rw [List.length_append, List.length_replicate]; omega
theorem padded_has (l : List Str) (n : Nat) {i : Nat} {w : Str} (hw : w ≠ []) : Has (padded l n) i w ↔ Has l i w := by
  unfold padded
  constructor
  · rintro ⟨h, hm⟩
    by_cases hi : i < l.length
    · rw [List.getElem_append_left hi] at hm; exact ⟨hi, hm⟩
    · rw [List.getElem_append_right (by omega), List.getElem_replicate] at hm
      simp [splitS] at hm
      exact absurd hm hw
  · rintro ⟨h, hm⟩
    refine ⟨by rw [List.length_append]; omega, ?_⟩
    rw [List.getElem_append_left h]; exact hm
theorem placed_has {l : List Str} {n : Nat} {v : Str} (hn : n ≤ 5000) (hv : v ≠ []) (hs : (32 : UInt8) ∉ v) {i : Nat} {w : Str} (hw : w ≠ []) : Has (placedF l n v) i w ↔ Has l i w ∨ (i = n ∧ w = v) := by
  have hl := padded_len l n
  have hnl : n < (padded l n).length := by omega
  rw [← padded_has l n hw]
  unfold placedF
  rw [if_neg (by omega)]
  by_cases hi : i = n
  · subst hi
    constructor
    · rintro ⟨h, hm⟩
      rw [List.getElem_set_self] at hm
      split at hm
      · rename_i he
        rw [List.nil_append, splitS_no v hs] at hm
        exact .inr ⟨rfl, by simpa using hm⟩
      · rw [List.append_assoc, List.singleton_append, splitS_append, splitS_no v hs, List.mem_append] at hm
        rcases hm with hm | hm
        · rw [Ix.getD_get hnl] at hm; exact .inl ⟨hnl, hm⟩
        · exact .inr ⟨rfl, by simpa using hm⟩
    · intro h
      refine ⟨by rw [List.length_set]; exact hnl, ?_⟩
      rw [List.getElem_set_self]
      split
      · rename_i he
        rw [Ix.getD_get hnl] at he
        rw [List.nil_append, splitS_no v hs]
        rcases h with ⟨_, hm⟩ | ⟨_, rfl⟩
        · rw [he] at hm; simp [splitS] at hm; exact absurd hm hw
        · simp
      · rw [List.append_assoc, List.singleton_append, splitS_append, splitS_no v hs, List.mem_append, Ix.getD_get hnl]
        rcases h with ⟨_, hm⟩ | ⟨_, rfl⟩
        · exact .inl hm
        · exact .inr (by simp)
  · constructor
    · rintro ⟨h, hm⟩
      rw [List.length_set] at h
      rw [List.getElem_set_ne (fun e => hi e.symm)] at hm
      exact .inl ⟨h, hm⟩
    · rintro (⟨h, hm⟩ | ⟨e, _⟩)
      · refine ⟨by rw [List.length_set]; exact h, ?_⟩
        rw [List.getElem_set_ne (fun e => hi e.symm)]; exact hm
      · exact absurd e hi
theorem places_has {v : Str} (hv : v ≠ []) (hs : (32 : UInt8) ∉ v) {i : Nat} {w : Str} (hw : w ≠ []) : ∀ (ns : List Int) (l : List Str), (∀ n ∈ ns, n ≤ 5000) → (Has (placesF l v ns) i w ↔ Has l i w ∨ ∃ n ∈ ns, i = n.toNat ∧ w = v)
  | [], l, _ => by unfold placesF; simp
  | n :: ns, l, h => by
    have ih := places_has (i := i) hv hs hw ns (placedF l n.toNat v) fun m hm => h m (.tail _ hm)
    have h0 := h n (.head _)
    unfold placesF at ih ⊢
    rw [List.foldl_cons, ih, placed_has (by omega) hv hs hw]
    constructor
    · rintro ((h | h) | ⟨m, hm, h⟩)
      · exact .inl h
      · exact .inr ⟨n, .head _, h⟩
      · exact .inr ⟨m, .tail _ hm, h⟩
    · rintro (g | ⟨m, hm, g⟩)
      · exact .inl (.inl g)
      · rcases List.mem_cons.1 hm with rfl | hm
        · exact .inl (.inr g)
        · exact .inr ⟨m, hm, g⟩
theorem docP_has {id : Int} {v : Str} (hv : v ≠ []) (hs : (32 : UInt8) ∉ v) {i : Nat} {w : Str} (hw : w ≠ []) : ∀ (ps : List Ix.Post) (l : List Str), (∀ p ∈ ps, ∀ n ∈ p.2, n ≤ 5000) → (Has (docP id v l ps) i w ↔ Has l i w ∨ ∃ p ∈ ps, p.1 = id ∧ ∃ n ∈ p.2, i = n.toNat ∧ w = v)
  | [], l, _ => by unfold docP; simp
  | p :: ps, l, h => by
    have ih := docP_has (id := id) (i := i) hv hs hw ps (if p.1 = id then placesF l v p.2 else l) fun m hm => h m (.tail _ hm)
    have h0 := h p (.head _)
    unfold docP at ih ⊢
    rw [List.foldl_cons, ih]
    by_cases e : p.1 = id
    · rw [if_pos e, places_has hv hs hw _ _ h0]
      constructor
      · rintro ((h | h) | ⟨m, hm, h⟩)
        · exact .inl h
        · exact .inr ⟨p, .head _, e, h⟩
        · exact .inr ⟨m, .tail _ hm, h⟩
      · rintro (g | ⟨m, hm, h1, g⟩)
        · exact .inl (.inl g)
        · rcases List.mem_cons.1 hm with rfl | hm
          · exact .inl (.inr g)
          · exact .inr ⟨m, hm, h1, g⟩
    · rw [if_neg e]
      constructor
      · rintro (h | ⟨m, hm, h⟩)
        · exact .inl h
        · exact .inr ⟨m, .tail _ hm, h⟩
      · rintro (h | ⟨m, hm, h1, h⟩)
        · exact .inl h
        · rcases List.mem_cons.1 hm with rfl | hm
          · exact absurd h1 e
          · exact .inr ⟨m, hm, h1, h⟩
theorem docT_has {id : Int} {i : Nat} {w : Str} (hw : w ≠ []) : ∀ (ts : List Ix.Term) (l : List Str), (∀ t ∈ ts, t.1 ≠ [] ∧ (32 : UInt8) ∉ t.1 ∧ ∀ p ∈ t.2, ∀ n ∈ p.2, n ≤ 5000) → (Has (docT id l ts) i w ↔ Has l i w ∨ ∃ t ∈ ts, ∃ p ∈ t.2, p.1 = id ∧ ∃ n ∈ p.2, i = n.toNat ∧ w = t.1)
  | [], l, _ => by unfold docT; simp
  | t :: ts, l, h => by
    have ih := docT_has (id := id) (i := i) hw ts (docP id t.1 l t.2) fun m hm => h m (.tail _ hm)
    obtain ⟨h0, h1, h2⟩ := h t (.head _)
    unfold docT at ih ⊢
    rw [List.foldl_cons, ih, docP_has h0 h1 hw _ _ h2]
    constructor
    · rintro ((h | h) | ⟨m, hm, h⟩)
      · exact .inl h
      · exact .inr ⟨t, .head _, h⟩
      · exact .inr ⟨m, .tail _ hm, h⟩
    · rintro (g | ⟨m, hm, g⟩)
      · exact .inl (.inl g)
      · rcases List.mem_cons.1 hm with rfl | hm
        · exact .inl (.inr g)
        · exact .inr ⟨m, hm, g⟩
/-- the places of an index are small and its words contain no spaces -/
def plainP (p : Ix.Post) : Bool := !(decide (0 < p.2.length) && decide (5000 < p.2.getD (p.2.length - 1) 0))
def plainF (x : Ix.Idx) : Bool := x.2.all fun t => !decide (1 < (splitS t.1).length) && t.2.all plainP
theorem last_max {l : List Int} (h : l.Pairwise (· < ·)) {m : Int} (hl : 0 < l.length → l.getD (l.length - 1) 0 ≤ m) : ∀ n ∈ l, n ≤ m := fun n hn => by
  obtain ⟨i, hi, rfl⟩ := List.mem_iff_getElem.1 hn
  have h1 := hl (by omega)
  rw [Ix.getD_get (by omega)] at h1
  by_cases e : i = l.length - 1
  · subst e; exact h1
  · have := List.pairwise_iff_getElem.1 h i (l.length - 1) hi (by omega) (by omega); omega
theorem plain_terms {x : Ix.Idx} (hc : Ix.Canon x) (h : plainF x = true) : ∀ t ∈ x.2, t.1 ≠ [] ∧ (32 : UInt8) ∉ t.1 ∧ ∀ p ∈ t.2, ∀ n ∈ p.2, n ≤ 5000 := fun t ht => by
  have h1 := List.all_eq_true.1 h t ht
  rw [Bool.and_eq_true, Bool.not_eq_true', decide_eq_false_iff_not, splitS_len] at h1
  refine ⟨(hc.word t ht).1, fun e => ?_, fun p hp => ?_⟩
  · have := List.count_pos_iff.2 e
    omega
  · have h2 := List.all_eq_true.1 h1.2 p hp
    have h3 := (hc.post t ht).2.2 p hp
    refine last_max h3.2.2.1 fun h0 => ?_
    unfold plainP at h2
    rw [decide_eq_true h0, Bool.true_and, Bool.not_eq_true', decide_eq_false_iff_not] at h2
    omega
/-- a word stands at a place just if the index says so -/
theorem doc_has {x : Ix.Idx} (hc : Ix.Canon x) (h : plainF x = true) {id : Int} {i : Nat} {w : Str} (hw : w ≠ []) : Has (docF x id) i w ↔ (i : Int) ∈ Ix.cont x.2 w id := by
  unfold docF
  rw [docT_has hw x.2 [] (plain_terms hc h)]
  constructor
  · rintro (⟨h, _⟩ | ⟨t, ht, p, hp, rfl, n, hn, rfl, rfl⟩)
    · exact absurd h (Nat.not_lt_zero _)
    · rw [Ix.cont_mem hc.wf ht hp]
      have := ((hc.post t ht).2.2 p hp).2.2.2 n hn
      rw [Int.toNat_of_nonneg this.1]; exact hn
  · intro hm
    obtain ⟨t, ht, rfl, p, hp, rfl, e⟩ := Ix.mem_cont (List.ne_nil_of_mem hm)
    rw [Ix.cont_mem hc.wf ht hp] at hm
    exact .inr ⟨t, ht, p, hp, rfl, _, hm, by simp, rfl⟩
theorem stands_eq {x : Ix.Idx} (hc : Ix.Canon x) (h : plainF x = true) {id : Int} {i : Nat} {w : Str} (hw : w ≠ []) : standsF (docF x id) i w = (Ix.cont x.2 w id).contains (i : Int) := by
  rw [Bool.eq_iff_iff, stands_iff, List.contains_iff_mem]
  exact doc_has hc h hw
/-! ### what a query matches -/
def rowM (l : List Str) (i : Nat) (w : List Str) : Bool := (List.range w.length).all fun k => standsF l (i + k) (Sm.stem (w.getD k []))
def nearM (l : List Str) (a b : Str) (n : Int) : Bool := (List.range l.length).any fun i => (List.range l.length).any fun k => (!decide (k = i) && (decide (-n ≤ (k : Int) - (i : Int)) && decide ((k : Int) - (i : Int) ≤ n))) && (standsF l i (Sm.stem a) && standsF l k (Sm.stem b))
def prefixM (l : List Str) (s : Str) : Bool := l.any fun y => (splitS y).any fun v => s.isPrefixOf v
def matchesF : Nat → Q → List Str → Bool
  | 0, _, _ => true
  | f + 1, q, l =>
    if q.kind = 6 then decide (q.parts.countP (fun p => matchesF f p l) = q.parts.length)
    else if q.kind = 7 then decide (0 < q.parts.countP (fun p => matchesF f p l))
    else if q.kind = 8 then decide (q.parts.countP (fun p => matchesF f p l) = 0)
    else if q.kind = 1 then true
    else if q.kind = 3 then prefixM l q.text
    else if q.kind = 5 then nearM l ((splitS q.text).headD []) ((splitS q.text).getD 1 []) q.num
    else (List.range l.length).any fun i => rowM l i (splitS q.text)
theorem rowAt_iff (x : Ix.Idx) (id a : Int) : ∀ (l : List Str) (k : Int), rowAt x id a l k = true ↔ ∀ (j : Nat) (h : j < l.length), (a + (k + (j : Int))) ∈ places x l[j] id
  | [], k => by simp [rowAt]
  | w :: l, k => by
    rw [rowAt, Bool.and_eq_true, List.contains_iff_mem, rowAt_iff x id a l (k + 1)]
    constructor
    · rintro ⟨h1, h2⟩ j hj
      cases j with
      | zero => simpa using h1
      | succ j =>
        have := h2 j (by simpa using hj)
        rw [List.getElem_cons_succ]
        rw [show k + ((j + 1 : Nat) : Int) = k + 1 + (j : Int) by omega]
        exact this
    · intro h
      refine ⟨by have := h 0 (by simp); simpa using this, fun j hj => ?_⟩
      have := h (j + 1) (by simpa using hj)
      rw [List.getElem_cons_succ] at this
      rw [show k + 1 + (j : Int) = k + ((j + 1 : Nat) : Int) by omega]
      exact this
theorem word_ne {s : Str} (h : wordOk s = true) : s ≠ [] ∧ Sm.stem s ≠ [] := by
  unfold wordOk at h
  rw [Bool.and_eq_true] at h
  have hne : s ≠ [] := by
    rintro rfl
    have := h.2
    rw [show Sm.words ([] : Str) = [] from rfl] at this
    cases this
  exact ⟨hne, Sm.stem_ne hne⟩
theorem place_nat {x : Ix.Idx} (hc : Ix.Canon x) {w : Str} {id n : Int} (h : n ∈ Ix.cont x.2 w id) : ∃ i : Nat, n = (i : Int) := by
  obtain ⟨t, ht, rfl, p, hp, rfl, e⟩ := Ix.mem_cont (List.ne_nil_of_mem h)
  rw [Ix.cont_mem hc.wf ht hp] at h
  have := ((hc.post t ht).2.2 p hp).2.2.2 n h
  exact ⟨n.toNat, by omega⟩
theorem any_iff_count {α : Type} (p : α → Bool) (l : List α) : l.any p = decide (0 < l.countP p) := by
  rw [Bool.eq_iff_iff, List.any_eq_true, decide_eq_true_eq, List.countP_pos_iff]
theorem all_iff_count {α : Type} (p : α → Bool) (l : List α) : (!(l.any fun a => !p a)) = decide (l.countP p = l.length) := by
  rw [Bool.eq_iff_iff, decide_eq_true_eq, List.countP_eq_length, Bool.not_eq_true', List.any_eq_false]
  simp
theorem phrase_eq {x : Ix.Idx} (hc : Ix.Canon x) (h : plainF x = true) (id : Int) {l : List Str} (hl : l ≠ []) (hw : ∀ w ∈ l, Sm.stem w ≠ []) : phraseF x l id = (List.range (docF x id).length).any fun i => rowM (docF x id) i l := by
  obtain ⟨w0, r, rfl⟩ : ∃ w0 r, l = w0 :: r := by cases l with | nil => exact absurd rfl hl | cons a b => exact ⟨a, b, rfl⟩
  rw [Bool.eq_iff_iff]
  unfold phraseF
  rw [List.any_eq_true, List.any_eq_true]
  have hrow : ∀ i : Nat, rowM (docF x id) i (w0 :: r) = true ↔ rowAt x id (i : Int) (w0 :: r) 0 = true := fun i => by
    rw [rowAt_iff]
    unfold rowM
    rw [List.all_eq_true]
    constructor
    · intro hh j hj
      have := hh j (List.mem_range.2 hj)
      rw [Ix.getD_get hj, stands_eq hc h (hw _ (List.getElem_mem hj)), List.contains_iff_mem] at this
      unfold places
      rw [Int.zero_add]
      simpa using this
    · intro hh j hj
      have hj := List.mem_range.1 hj
      have := hh j hj
      rw [Ix.getD_get hj, stands_eq hc h (hw _ (List.getElem_mem hj)), List.contains_iff_mem]
      unfold places at this
      rw [Int.zero_add] at this
      simpa using this
  constructor
  · rintro ⟨a, ha, hr⟩
    obtain ⟨i, rfl⟩ := place_nat hc ha
    have hs : Has (docF x id) i (Sm.stem w0) := (doc_has hc h (hw _ (.head _))).2 ha
    exact ⟨i, List.mem_range.2 hs.1, (hrow i).2 hr⟩
  · rintro ⟨i, hi, hr⟩
    have h1 := (hrow i).1 hr
    refine ⟨(i : Int), ?_, h1⟩
    have := (rowAt_iff x id (i : Int) (w0 :: r) 0).1 h1 0 (by simp)
    simpa using this
theorem word_eq {x : Ix.Idx} (hc : Ix.Canon x) (h : plainF x = true) (id : Int) {w : Str} (hw : Sm.stem w ≠ []) : decide (0 < (places x w id).length) = (List.range (docF x id).length).any fun i => rowM (docF x id) i [w] := by
  rw [Bool.eq_iff_iff, decide_eq_true_eq, List.any_eq_true]
  have hrow : ∀ i : Nat, rowM (docF x id) i [w] = standsF (docF x id) i (Sm.stem w) := fun i => by
    unfold rowM; simp [List.range_succ]
  constructor
  · intro h0
    obtain ⟨a, ha⟩ := List.exists_mem_of_length_pos h0
    obtain ⟨i, rfl⟩ := place_nat hc ha
    have hs := (doc_has hc h hw).2 ha
    exact ⟨i, List.mem_range.2 hs.1, by rw [hrow]; exact (stands_iff _ _ _).2 hs⟩
  · rintro ⟨i, hi, hr⟩
    rw [hrow] at hr
    exact List.length_pos_of_mem ((doc_has hc h hw).1 ((stands_iff _ _ _).1 hr))
theorem prefix_eq {x : Ix.Idx} (hc : Ix.Canon x) (h : plainF x = true) (id : Int) {s : Str} (hs : s ≠ []) : prefixF x s id = prefixM (docF x id) s := by
  rw [Bool.eq_iff_iff, prefix_iff hc.wf]
  unfold prefixM
  rw [List.any_eq_true]
  constructor
  · rintro ⟨w, h1, h2⟩
    have hw : w ≠ [] := by rintro rfl; rw [List.isPrefixOf_iff_prefix] at h1; exact hs (List.prefix_nil.1 h1)
    obtain ⟨a, ha⟩ := List.exists_mem_of_ne_nil _ h2
    obtain ⟨i, rfl⟩ := place_nat hc ha
    obtain ⟨hi, hm⟩ := (doc_has hc h hw).2 ha
    exact ⟨_, List.getElem_mem hi, List.any_eq_true.2 ⟨w, hm, h1⟩⟩
  · rintro ⟨y, hy, hb⟩
    obtain ⟨w, hm, h1⟩ := List.any_eq_true.1 hb
    obtain ⟨i, hi, rfl⟩ := List.mem_iff_getElem.1 hy
    have hw : w ≠ [] := by rintro rfl; rw [List.isPrefixOf_iff_prefix] at h1; exact hs (List.prefix_nil.1 h1)
    exact ⟨w, h1, List.ne_nil_of_mem ((doc_has hc h hw).1 ⟨hi, hm⟩)⟩
theorem near_eq {x : Ix.Idx} (hc : Ix.Canon x) (h : plainF x = true) (id : Int) {a b : Str} (ha : Sm.stem a ≠ []) (hb : Sm.stem b ≠ []) (n : Int) : nearF x a b n id = nearM (docF x id) a b n := by
  rw [Bool.eq_iff_iff]
  unfold nearF nearM
  simp only [List.any_eq_true, Bool.and_eq_true, Bool.not_eq_true', decide_eq_true_eq, decide_eq_false_iff_not, beq_eq_false_iff_ne, ne_eq]
  constructor
  · rintro ⟨i, hi, k, hk, ⟨h1, h2⟩, h3⟩
    obtain ⟨i, rfl⟩ := place_nat hc hi
    obtain ⟨k, rfl⟩ := place_nat hc hk
    have s1 := (doc_has hc h ha).2 hi
    have s2 := (doc_has hc h hb).2 hk
    exact ⟨i, List.mem_range.2 s1.1, k, List.mem_range.2 s2.1, ⟨by omega, by omega, by omega⟩, (stands_iff _ _ _).2 s1, (stands_iff _ _ _).2 s2⟩
  · rintro ⟨i, hi, k, hk, ⟨h1, h2, h3⟩, s1, s2⟩
    exact ⟨(i : Int), (doc_has hc h ha).1 ((stands_iff _ _ _).1 s1), (k : Int), (doc_has hc h hb).1 ((stands_iff _ _ _).1 s2), ⟨by omega, by omega⟩, by omega⟩
/-- what a node of a valid query is like -/
theorem node_text {q : Q} (h : errOf q = 0) : (1 ≤ q.kind ∧ q.kind ≤ 8) ∧ (q.kind = 2 ∨ q.kind = 3 → splitS q.text = [q.text] ∧ wordOk q.text = true) ∧ (q.kind = 4 → ∀ w ∈ splitS q.text, wordOk w = true) ∧
    (q.kind = 5 → ∃ a b, splitS q.text = [a, b] ∧ wordOk a = true ∧ wordOk b = true) ∧ (q.kind = 8 → ∃ p, q.parts = [p]) := by
  unfold errOf at h
  split at h
  · cases h
  · rename_i h0
    simp only [Bool.or_eq_true, decide_eq_true_eq, not_or, Int.not_lt] at h0
    split at h
    · cases h
    · rename_i h1
      split at h
      · cases h
      · split at h
        · cases h
        · rename_i h2
          refine ⟨h0, fun hk => ?_, fun hk => ?_, fun hk => ?_, fun hk => ?_⟩
          · have hwnt : wants q.kind = 1 := by rcases hk with hk | hk <;> rw [hk] <;> rfl
            rw [hwnt] at h2
            simp only [not_and, not_or, Bool.not_eq_false] at h2
            obtain ⟨g1, g2⟩ := h2 (by decide)
            have g3 : (splitS q.text).length = 1 := by have := g2 (by decide); omega
            have g4 : q.text.count 32 = 0 := by rw [splitS_len] at g3; omega
            have g5 := splitS_no q.text (List.count_eq_zero.1 g4)
            rw [g5] at g1
            exact ⟨g5, by simpa using g1⟩
          · have hwnt : wants q.kind = -1 := by rw [hk]; rfl
            rw [hwnt] at h2
            simp only [not_and, not_or, Bool.not_eq_false] at h2
            exact List.all_eq_true.1 (h2 (by decide)).1
          · have hwnt : wants q.kind = 2 := by rw [hk]; rfl
            rw [hwnt] at h2
            simp only [not_and, not_or, Bool.not_eq_false] at h2
            obtain ⟨g1, g2⟩ := h2 (by decide)
            have g3 : (splitS q.text).length = 2 := by have := g2 (by decide); omega
            match hsp : splitS q.text, g3 with
            | [a, b], _ => rw [hsp] at g1; simp at g1; exact ⟨a, b, rfl, g1⟩
          · rw [hk] at h1
            simp only [not_or, least, most] at h1
            have g3 : q.parts.length = 1 := by
              have a1 := h1.1; have a2 := h1.2.1
              simp at a1 a2; omega
            match hsp : q.parts, g3 with
            | [a], _ => exact ⟨a, rfl⟩
theorem matches_eq {x : Ix.Idx} (hc : Ix.Canon x) (h : plainF x = true) (id : Int) : ∀ (f : Nat) (q : Q), Fits f q → (∀ p ∈ pre f q, errOf p = 0) → matchesF f q (docF x id) = findsF f x q id
  | 0, q, hf, _ => hf.elim
  | f + 1, q, hf, he => by
    have hself : errOf q = 0 := he q (by rw [pre]; exact .head _)
    have ih : ∀ p ∈ q.parts, matchesF f p (docF x id) = findsF f x p id := fun p hp =>
      matches_eq hc h id f p (hf p hp) fun r hr => he r (by rw [pre]; exact .tail _ (List.mem_flatMap.2 ⟨p, hp, hr⟩))
    have hcnt : q.parts.countP (fun p => matchesF f p (docF x id)) = q.parts.countP (fun p => findsF f x p id) := List.countP_congr fun p hp => by rw [ih p hp]
    obtain ⟨⟨k1, k8⟩, t1, t4, t5, t8⟩ := node_text hself
    rw [matchesF, findsF, hcnt]
    by_cases c6 : q.kind = 6
    · rw [c6]; simp only [if_true, show ¬ (6 : Int) = 2 by decide, show ¬ (6 : Int) = 3 by decide, show ¬ (6 : Int) = 4 by decide, show ¬ (6 : Int) = 5 by decide, if_false]
      rw [all_iff_count]
    by_cases c7 : q.kind = 7
    · rw [c7]; simp only [if_true, show ¬ (7 : Int) = 2 by decide, show ¬ (7 : Int) = 3 by decide, show ¬ (7 : Int) = 4 by decide, show ¬ (7 : Int) = 5 by decide, show ¬ (7 : Int) = 6 by decide, if_false]
      rw [any_iff_count]
    by_cases c8 : q.kind = 8
    · obtain ⟨p, hp⟩ := t8 c8
      rw [c8]; simp only [if_true, show ¬ (8 : Int) = 2 by decide, show ¬ (8 : Int) = 3 by decide, show ¬ (8 : Int) = 4 by decide, show ¬ (8 : Int) = 5 by decide, show ¬ (8 : Int) = 6 by decide, show ¬ (8 : Int) = 7 by decide, if_false]
      rw [hp, List.headD_cons]
      cases hb : findsF f x p id <;> simp [hb]
    rw [if_neg c6, if_neg c7, if_neg c8, if_neg c6, if_neg c7, if_neg c8]
    by_cases c2 : q.kind = 2
    · obtain ⟨e1, e2⟩ := t1 (.inl c2)
      rw [c2]; simp only [if_true, show ¬ (2 : Int) = 1 by decide, show ¬ (2 : Int) = 3 by decide, show ¬ (2 : Int) = 5 by decide, if_false]
      rw [e1]
      exact (word_eq hc h id (word_ne e2).2).symm
    by_cases c3 : q.kind = 3
    · obtain ⟨e1, e2⟩ := t1 (.inr c3)
      rw [c3]; simp only [if_true, show ¬ (3 : Int) = 1 by decide, show ¬ (3 : Int) = 2 by decide, if_false]
      exact (prefix_eq hc h id (word_ne e2).1).symm
    by_cases c4 : q.kind = 4
    · have e := t4 c4
      rw [c4]; simp only [if_true, show ¬ (4 : Int) = 1 by decide, show ¬ (4 : Int) = 3 by decide, show ¬ (4 : Int) = 2 by decide, show ¬ (4 : Int) = 5 by decide, if_false]
      exact (phrase_eq hc h id (splitS_ne _) fun w hw => (word_ne (e w hw)).2).symm
    by_cases c5 : q.kind = 5
    · obtain ⟨a, b, e, e1, e2⟩ := t5 c5
      rw [c5]; simp only [if_true, show ¬ (5 : Int) = 1 by decide, show ¬ (5 : Int) = 3 by decide, show ¬ (5 : Int) = 2 by decide, show ¬ (5 : Int) = 4 by decide, if_false]
      rw [e]
      exact (near_eq hc h id (word_ne e1).2 (word_ne e2).2 _).symm
    have c1 : q.kind = 1 := by omega
    rw [c1]; simp
def foundM (x : Ix.Idx) (q : Q) : List Int := x.1.filter fun id => matchesF 8 q (docF x id)
theorem foundM_eq {x : Ix.Idx} (hc : Ix.Canon x) (h : plainF x = true) {q : Q} (hq : (fault q).1 = 0) : foundM x q = foundF x q := by
  have hg := fault_zero.1 hq
  exact List.filter_congr fun id _ => matches_eq hc h id 8 q hg.1 hg.2.2
end Sr
end Go.Proofs.YtihhgmpanfboaaaGreatDoor

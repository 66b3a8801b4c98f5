/-
  Contracts and plain facts, one after another: index.Of: the postings of a term; The index of texts, made at once, is the one to which they have been added one by one; plain; The reference Made: its plain steps, and the states of its walk.
-/
import Derived.Test.YtfjpedgddgbelaaGreatDoorG17
import Derived.Test.YtfjpedgddgbelaaGreatDoorG13
import Derived.Test.YtfjpedgddgbelaaGreatDoorG12
import Derived.Test.YtfjpedgddgbelaaGreatDoorG8
import Derived.Deep.QuietTactic
import Derived.BigQuiet
namespace Go.Proofs.YtfjpedgddgbelaaGreatDoor
open Go.RowKit
set_option linter.unusedVariables false
theorem look_at {K V : Type} [DecidableEq K] {lt : K → K → Bool} (ht : Al.Tot lt) {l : List (K × V)} {k : Nat} (hs : Al.Sorted lt l) (hk : k < l.length) : Al.look l l[k].1 = some l[k].2 :=
  Al.look_of_mem ht hs (show (l[k].1, l[k].2) ∈ l from List.getElem_mem hk)
theorem look_of_search {ts : List Ix.Term} {raw : List (Str × Value)} {x : Str} {k : Nat} {hit : Bool} (hl : raw.length = ts.length) (hi : ∀ (i : Nat) (h1 : i < raw.length) (h2 : i < ts.length), raw[i].1 = ts[i].1) (hs : Al.Sorted ltS ts) (h : SearchAt ltS raw x k hit) :
    (hit = true → ∃ h : k < ts.length, Al.look ts x = some ts[k].2) ∧ (hit = false → Al.look ts x = none) := by
  obtain ⟨h1, h2, h3, h4⟩ := h
  constructor
  · intro e
    rw [e] at h4
    by_cases hk : k < raw.length
    · rw [List.getElem?_eq_getElem hk] at h4
      have hk' : k < ts.length := by omega
      have e2 : raw[k].1 = x := by simpa using h4.symm
      refine ⟨hk', ?_⟩
      rw [← e2, hi k hk hk']
      exact look_at tot_str hs hk'
    · rw [List.getElem?_eq_none (by omega)] at h4
      cases h4
  · intro e
    rw [e] at h4
    refine Al.look_none fun q hq e2 => ?_
    obtain ⟨m, hm, rfl⟩ := List.mem_iff_getElem.1 hq
    have hm' : m < raw.length := by omega
    rw [← hi m hm' hm] at e2
    rcases Nat.lt_trichotomy m k with e3 | e3 | e3
    · exact tot_str.ne (h2 m hm' e3) e2
    · subst e3
      rw [List.getElem?_eq_getElem hm'] at h4
      simp only at h4
      rw [decide_eq_true e2] at h4
      cases h4
    · have h5 := h3 k (by omega) (Nat.le_refl _)
      have hp := List.pairwise_iff_getElem.1 hs k m (by omega) hm e3
      rw [← hi k (by omega) (by omega), ← hi m hm' hm, e2, h5] at hp
      cases hp
set_option maxRecDepth 20000 in
set_option maxHeartbeats 4000000 in
theorem indexOf_ok (a b : Value) (ts : List Ix.Term) (x : Str) (w : World) (h1 : SlR termC M0 w b ts) (hs : Al.Sorted ltS ts) (hln : ts.length ≤ 1000000) (hsm : ∀ t ∈ ts, t.2.length ≤ 1000000 ∧ ∀ p ∈ t.2, p.2.length ≤ 1000001) :
    Calls Tryz.prog 65 #[.agg #[a, b], .string (bs x)] w fun e w' => ∃ v, e = .returned v ∧ SlR postC (Old w.heap.size) w' v ((Al.look ts x).getD []) ∧ Below w.heap.size w w' := by
  obtain ⟨A1, c1, rfl, hlc, hcm⟩ := h1.form
  obtain ⟨raw, hrl, hraw, hri⟩ := h1.raw
  have hal := (Below.refl w.heap.size w).alloc (Nat.le_refl _) (.cells #[a, .slice A1 ts.length c1] 25)
  obtain ⟨g0, hg0⟩ : ∃ g, w.heap.size = g := ⟨_, rfl⟩
  obtain ⟨W, hW⟩ : ∃ W, w.alloc (.cells #[a, .slice A1 ts.length c1] 25) = W := ⟨_, rfl⟩
  have kb := Blk.new w 25 #[a, .slice A1 ts.length c1]
  obtain ⟨q0, q1, _, _, _⟩ := kb.two
  rw [hW] at hal kb
  rw [hg0] at kb
  have hsr : Al.Sorted ltS raw := by
    unfold Al.Sorted
    refine List.pairwise_iff_getElem.2 fun i j hi hj hij => ?_
    rw [(hri i hi (by omega)).1, (hri j hj (by omega)).1]
    exact List.pairwise_iff_getElem.1 hs i j (by omega) (by omega) hij
  have hf := find_ok a (.slice A1 ts.length c1) raw x W (hraw.ext hal) hsr (by omega)
  have hlk := fun k hit (h : SearchAt ltS raw x k hit) => look_of_search hrl (fun i h1 h2 => (hri i h1 h2).1) hs h
  have h1W := h1.ext hal
  have HW := Lib.hid (And.intro hW hg0); have Hf := Lib.hid hf; have Hlk := Lib.hid hlk; have Hsm := Lib.hid hsm
  clear hf hlk hri hraw hsr hs hsm hW hg0
  go_enter Tryz.func65, Tryz.ntmps65
  go_wp2_with fail
  rw [HW.out.1, HW.out.2]
  refine Hf.out.mono ?_
  rintro e w1 ⟨k, hit, rfl, hsa, hb1⟩
  have hl := Hlk.out k hit hsa
  clear hsa q0 q1 Hlk
  cases hit with
  | false =>
    have Hl := Lib.hid (hl.2 rfl)
    clear hl
    go_wp2
    go_ret
    refine ⟨_, rfl, ?_, below2 hal hb1⟩
    rw [Hl.out]
    exact SlR.nil _ _ _
  | true =>
    obtain ⟨hk, hl2⟩ := hl.1 rfl
    have Hl := Lib.hid hl2
    clear hl hl2
    obtain ⟨b, off, A2, c2, hA, _, _, p0, p1, _, hq⟩ := (h1W.ext hb1).termAt hk
    subst hA
    obtain ⟨_, q1, _⟩ := (kb.ext hb1).two
    have hk0 : (0 : Int) ≤ (k : Int) := by omega
    have hk1 : (k : Int) < (ts.length : Int) := by omega
    have hkw : IntKind.i64.wrap (k : Int) = (k : Int) := IntWalk.i64_in _ (by unfold maxLen at hcm; omega)
    have hmem := List.getElem_mem hk
    have hcp := copied_ok (fun _ => .no) [] (.slice A2 ts[k].2.length c2) ts[k].2 w1 hq (by have := (Hsm.out _ hmem).1; omega) (Hsm.out _ hmem).2 (fun _ _ => rfl)
    have Hcp := Lib.hid hcp
    clear hcp hq hmem
    go_wp2_with fail
    refine Hcp.out.mono ?_
    rintro e w2 ⟨v', o', ps, rfl, hps, hpp, _, _, hb2⟩
    have hb := below2 hal (hb1.trans (hb2.mono hb1.size))
    have hr := hps.readB.older (Nat.le_trans hal.size hb1.size)
    clear hb1 hb2
    rw [hpp] at hr
    clear hps hpp
    obtain ⟨A3, c3, rfl, _, _⟩ := hr.form
    go_wp2
    go_ret
    refine ⟨_, rfl, ?_, hb⟩
    rw [Hl.out]
    exact hr
end Go.Proofs.YtfjpedgddgbelaaGreatDoor
namespace Go.Proofs.YtfjpedgddgbelaaGreatDoor
namespace Ix
set_option linter.unusedVariables false
/-- a word in its place among others -/
def insW (l : List Str) (s : Str) : List Str := l.takeWhile (fun a => ltS a s) ++ s :: l.dropWhile (fun a => ltS a s)
def putW (l : List Str) (s : Str) : List Str := if s ∈ l then l else insW l s
def wordsOf (ws : List Str) : List Str := ws.foldl putW []
abbrev Doc := Int × List Str
def postsOf (docs : List Doc) (w : Str) : List Post := docs.filterMap fun d => if occ w d.2 0 = [] then none else some (d.1, occ w d.2 0)
def madeF (docs : List Doc) : Idx := (docs.map fun d => d.1, (wordsOf (docs.flatMap fun d => d.2)).map fun w => (w, postsOf docs w))
def SortedW (l : List Str) : Prop := l.Pairwise fun a b => ltS a b = true
theorem insW_split {l : List Str} (h : SortedW l) (s : Str) : (∀ a ∈ l.takeWhile (fun a => ltS a s), ltS a s = true) ∧ (s ∉ l → ∀ a ∈ l.dropWhile (fun a => ltS a s), ltS s a = true) := by
  induction l with
  | nil => simp
  | cons b r ih =>
    have h0 := h
    unfold SortedW at h
    rw [List.pairwise_cons] at h
    rw [List.takeWhile_cons, List.dropWhile_cons]
    cases hb : ltS b s with
    | true =>
      simp only [if_true]
      obtain ⟨h1, h2⟩ := ih h.2
      refine ⟨fun a ha => ?_, fun hs a ha => h2 (fun e => hs (List.mem_cons_of_mem _ e)) a ha⟩
      rcases List.mem_cons.1 ha with e | e
      · rw [e]; exact hb
      · exact h1 a e
    | false =>
      simp only [Bool.false_eq_true, if_false]
      refine ⟨fun a ha => (by cases ha), fun hs a ha => ?_⟩
      have hsb : ltS s b = true := by
        rcases ltS_total s b with e | e | e
        · exact e
        · exact absurd (by rw [e]; exact List.mem_cons_self) hs
        · rw [e] at hb; cases hb
      rcases List.mem_cons.1 ha with e | e
      · rw [e]; exact hsb
      · exact ltS_trans hsb (h.1 a e)
theorem putW_sorted {l : List Str} (h : SortedW l) (s : Str) : SortedW (putW l s) := by
  unfold putW
  split
  · exact h
  · rename_i hs
    obtain ⟨h1, h2⟩ := insW_split h s
    have hs' := h2 hs
    unfold SortedW insW
    have hl : (l.takeWhile (fun a => ltS a s) ++ l.dropWhile (fun a => ltS a s)).Pairwise fun a b => ltS a b = true := by rw [List.takeWhile_append_dropWhile]; exact h
    rw [List.pairwise_append] at hl ⊢
    refine ⟨hl.1, List.pairwise_cons.2 ⟨hs', hl.2.1⟩, fun a ha b hb => ?_⟩
    rcases List.mem_cons.1 hb with e | e
    · rw [e]; exact h1 a ha
    · exact hl.2.2 a ha b e
theorem mem_putW {l : List Str} {s a : Str} : a ∈ putW l s ↔ a = s ∨ a ∈ l := by
  unfold putW
  split
  · rename_i hs
    exact ⟨.inr, fun h => h.elim (fun e => e ▸ hs) id⟩
  · unfold insW
    have : a ∈ l ↔ a ∈ l.takeWhile (fun a => ltS a s) ++ l.dropWhile (fun a => ltS a s) := by rw [List.takeWhile_append_dropWhile]
    rw [this]
    simp only [List.mem_append, List.mem_cons]
    constructor <;> rintro (h | h | h) <;> simp [h]
theorem foldW (ws : List Str) : ∀ l, SortedW l → SortedW (ws.foldl putW l) ∧ ∀ a, a ∈ ws.foldl putW l ↔ a ∈ l ∨ a ∈ ws := by
  induction ws with
  | nil => intro l h; exact ⟨h, fun a => by simp⟩
  | cons w ws ih =>
    intro l h
    obtain ⟨h1, h2⟩ := ih (putW l w) (putW_sorted h w)
    refine ⟨h1, fun a => ?_⟩
    rw [List.foldl_cons, h2, mem_putW, List.mem_cons]
    constructor
    · rintro ((h | h) | h) <;> simp [h]
    · rintro (h | h | h) <;> simp [h]
theorem wordsOf_sorted (ws : List Str) : SortedW (wordsOf ws) := (foldW ws [] List.Pairwise.nil).1
theorem mem_wordsOf {ws : List Str} {a : Str} : a ∈ wordsOf ws ↔ a ∈ ws := by
  unfold wordsOf
  rw [(foldW ws [] List.Pairwise.nil).2]
  simp
theorem postsOf_mem {docs : List Doc} {w : Str} {p : Post} : p ∈ postsOf docs w ↔ ∃ d ∈ docs, d.1 = p.1 ∧ occ w d.2 0 = p.2 ∧ p.2 ≠ [] := by
  unfold postsOf
  rw [List.mem_filterMap]
  constructor
  · rintro ⟨d, hd, h⟩
    by_cases hne : occ w d.2 0 = []
    · rw [if_pos hne] at h; cases h
    · rw [if_neg hne] at h
      injection h with h
      subst h
      exact ⟨d, hd, rfl, rfl, hne⟩
  · rintro ⟨d, hd, e1, e2, hne⟩
    refine ⟨d, hd, ?_⟩
    rw [e2, if_neg hne, e1]
theorem postsOf_sorted {docs : List Doc} (h : (docs.map fun d => d.1).Pairwise (· < ·)) (w : Str) : Al.Sorted ltI (postsOf docs w) := by
  unfold Al.Sorted postsOf
  rw [List.pairwise_filterMap]
  rw [List.pairwise_map] at h
  refine h.imp fun {a b} hab p hp q hq => ?_
  split at hp
  · cases hp
  · split at hq
    · cases hq
    · injection hp with hp
      injection hq with hq
      subst hp hq
      simpa [ltI] using hab
theorem made_wf {docs : List Doc} (h : (docs.map fun d => d.1).Pairwise (· < ·)) : Wf (madeF docs).2 := by
  refine ⟨?_, fun t ht => ?_⟩
  · show Al.Sorted ltS ((wordsOf _).map _)
    unfold Al.Sorted
    rw [List.pairwise_map]
    exact wordsOf_sorted _
  · obtain ⟨w, hw, rfl⟩ := List.mem_map.1 ht
    refine ⟨fun e => ?_, postsOf_sorted h w, fun p hp => (postsOf_mem.1 hp).choose_spec.2.2.2⟩
    obtain ⟨d, hd, hwd⟩ := List.mem_flatMap.1 (mem_wordsOf.1 hw)
    have hne : occ w d.2 0 ≠ [] := fun e' => (occ_nil _ _ _).1 e' hwd
    have : (d.1, occ w d.2 0) ∈ postsOf docs w := postsOf_mem.2 ⟨d, hd, rfl, rfl, hne⟩
    simp only at e
    rw [e] at this
    cases this
theorem cont_made {docs : List Doc} (h : (docs.map fun d => d.1).Pairwise (· < ·)) (w : Str) (i : Int) : cont (madeF docs).2 w i = match docs.find? (fun d => d.1 == i) with | some d => occ w d.2 0 | none => [] := by
  have hwf := made_wf h
  have uniq : ∀ d ∈ docs, ∀ d' ∈ docs, d.1 = d'.1 → d = d' := by
    intro d hd d' hd' e
    obtain ⟨a, ha, rfl⟩ := List.mem_iff_getElem.1 hd
    obtain ⟨b, hb, rfl⟩ := List.mem_iff_getElem.1 hd'
    rw [List.pairwise_map] at h
    have hp := List.pairwise_iff_getElem.1 h
    rcases Nat.lt_trichotomy a b with h1 | h1 | h1
    · have := hp a b ha hb h1; omega
    · subst h1; rfl
    · have := hp b a hb ha h1; omega
  by_cases hc : cont (madeF docs).2 w i = []
  · rw [hc]
    cases hf : docs.find? (fun d => d.1 == i) with
    | none => rfl
    | some d =>
      have hd := List.mem_of_find?_eq_some hf
      have hdi : d.1 = i := by simpa using List.find?_some hf
      show [] = occ w d.2 0
      cases ho : occ w d.2 0 with
      | nil => rfl
      | cons a r =>
        exfalso
        have hne : occ w d.2 0 ≠ [] := by rw [ho]; simp
        have hw : w ∈ d.2 := Classical.byContradiction fun hno => hne ((occ_nil _ _ _).2 hno)
        have ht : (w, postsOf docs w) ∈ (madeF docs).2 := List.mem_map.2 ⟨w, mem_wordsOf.2 (List.mem_flatMap.2 ⟨d, hd, hw⟩), rfl⟩
        have := cont_mem hwf ht (show (d.1, occ w d.2 0) ∈ postsOf docs w from postsOf_mem.2 ⟨d, hd, rfl, rfl, hne⟩)
        simp only at this
        rw [hdi, hc, ho] at this
        cases this
  · obtain ⟨t, ht, e1, p, hp, e2, e3⟩ := mem_cont hc
    obtain ⟨w', hw', rfl⟩ := List.mem_map.1 ht
    simp only at e1 hp
    subst e1
    obtain ⟨d, hd, h1, h2, h3⟩ := postsOf_mem.1 hp
    have hf : docs.find? (fun d => d.1 == i) = some d := by
      cases hf : docs.find? (fun d => d.1 == i) with
      | none => have := List.find?_eq_none.1 hf d hd; simp [h1, e2] at this
      | some d' =>
        have hd' := List.mem_of_find?_eq_some hf
        have hdi : d'.1 = i := by simpa using List.find?_some hf
        rw [uniq d' hd' d hd (by rw [hdi, h1, e2])]
    rw [hf, ← e3, ← h2]
/-- texts added one by one -/
def addAll (docs : List Doc) : Idx := docs.foldl (fun x d => addF x d.1 d.2) ([], [])
theorem insId_end {ids : List Int} {id : Int} (h : ∀ n ∈ ids, n < id) : insId ids id = ids ++ [id] := by
  unfold insId
  rw [List.filter_eq_self.2 fun n hn => by simpa using h n hn, List.filter_eq_nil_iff.2 fun n hn => by have := h n hn; simp; omega]
theorem wf_nil : Wf [] := ⟨List.Pairwise.nil, fun t ht => by cases ht⟩
theorem made_snoc {docs : List Doc} {d : Doc} (h : ((docs ++ [d]).map fun d => d.1).Pairwise (· < ·)) : madeF (docs ++ [d]) = addF (madeF docs) d.1 d.2 := by
  have h0 := h
  rw [List.map_append, List.pairwise_append] at h
  have hlt : ∀ n ∈ docs.map (fun d => d.1), n < d.1 := fun n hn => h.2.2 n hn d.1 (by simp)
  have hwf := made_wf h.1
  have e1 : (madeF (docs ++ [d])).1 = (addF (madeF docs) d.1 d.2).1 := by
    show (docs ++ [d]).map _ = insId (docs.map _) d.1
    rw [insId_end hlt, List.map_append]; rfl
  have e2 : (madeF (docs ++ [d])).2 = (addF (madeF docs) d.1 d.2).2 := by
    refine Wf.ext (made_wf h0) (Wf.putAll d.1 d.2 0 hwf) fun w i => ?_
    rw [cont_made h0, show (addF (madeF docs) d.1 d.2).2 = putAll d.1 d.2 0 (madeF docs).2 from rfl, cont_putAll d.1 d.2 0 hwf, List.find?_append]
    have hno : docs.find? (fun d' => d'.1 == d.1) = none := List.find?_eq_none.2 fun d' hd' e => by
      have := hlt d'.1 (List.mem_map.2 ⟨d', hd', rfl⟩)
      have e' : d'.1 = d.1 := by simpa using e
      omega
    by_cases hi : i = d.1
    · subst hi
      rw [hno, if_pos rfl, cont_made h.1, hno]
      simp
    · rw [if_neg hi, cont_made h.1]
      have : (d.1 == i) = false := by simpa using fun e => hi e.symm
      cases hf : docs.find? (fun d => d.1 == i) with
      | some d' => simp
      | none => simp [this]
  exact Prod.ext e1 e2
theorem made_nil : madeF [] = ([], []) := rfl
end Ix
end Go.Proofs.YtfjpedgddgbelaaGreatDoor
namespace Go.Proofs.YtfjpedgddgbelaaGreatDoor
open Go.RowKit
set_option linter.unusedVariables false
namespace Ix
theorem occ_snoc (w a : Str) : ∀ (s : List Str) (n : Nat), occ w (s ++ [a]) n = occ w s n ++ if a = w then [((n + s.length : Nat) : Int)] else []
  | [], n => by
    rw [List.nil_append, occ, occ]
    split <;> simp [occ]
  | b :: s, n => by
    rw [List.cons_append, occ, occ, occ_snoc w a s (n + 1), List.length_cons, show n + 1 + s.length = n + (s.length + 1) by omega]
    split <;> simp
theorem occ_take (w : Str) (s : List Str) {k : Nat} (hk : k < s.length) : occ w (s.take (k + 1)) 0 = occ w (s.take k) 0 ++ if s[k] = w then [(k : Int)] else [] := by
  rw [List.take_succ_eq_append_getElem hk, occ_snoc, List.length_take, Nat.min_eq_left (by omega), Nat.zero_add]
/-- texts as lists of stems -/
def stemsD (docs : List (Int × Str)) : List Doc := docs.map fun d => (d.1, Sm.stems d.2)
theorem stemsD_take (docs : List (Int × Str)) {k : Nat} (hk : k < docs.length) : stemsD (docs.take (k + 1)) = stemsD (docs.take k) ++ [(docs[k].1, Sm.stems docs[k].2)] := by
  unfold stemsD
  rw [List.take_succ_eq_append_getElem hk, List.map_append]
  rfl
theorem postsOf_take (docs : List (Int × Str)) (w : Str) {k : Nat} (hk : k < docs.length) : postsOf (stemsD (docs.take (k + 1))) w = postsOf (stemsD (docs.take k)) w ++ if occ w (Sm.stems docs[k].2) 0 = [] then [] else [(docs[k].1, occ w (Sm.stems docs[k].2) 0)] := by
  unfold postsOf
  rw [stemsD_take docs hk, List.filterMap_append]
  congr 1
  by_cases h : occ w (Sm.stems docs[k].2) 0 = []
  · simp [h]
  · simp [h]
def wordsD (docs : List (Int × Str)) : List Str := wordsOf ((stemsD docs).flatMap fun d => d.2)
theorem wordsD_take (docs : List (Int × Str)) {k : Nat} (hk : k < docs.length) : wordsD (docs.take (k + 1)) = (Sm.stems docs[k].2).foldl putW (wordsD (docs.take k)) := by
  unfold wordsD wordsOf
  rw [stemsD_take docs hk, List.flatMap_append, List.foldl_append]
  simp
theorem putW_len (l : List Str) (s : Str) : (putW l s).length ≤ l.length + 1 := by
  unfold putW
  split
  · omega
  · unfold insW
    have := congrArg List.length (List.takeWhile_append_dropWhile (p := fun a => ltS a s) (l := l))
    rw [List.length_append] at this
    rw [List.length_append, List.length_cons]
    omega
theorem foldW_len : ∀ (ws l : List Str), (ws.foldl putW l).length ≤ l.length + ws.length
  | [], l => Nat.le_refl _
  | w :: ws, l => by
    have := foldW_len ws (putW l w)
    have := putW_len l w
    rw [List.foldl_cons, List.length_cons]
    omega
theorem wordsD_len (docs : List (Int × Str)) (h : ∀ d ∈ docs, d.2.length ≤ 4000) (hn : docs.length ≤ 100) : (wordsD docs).length ≤ 400000 := by
  have h1 := foldW_len ((stemsD docs).flatMap fun d => d.2) []
  have h2 : ∀ l : List (Int × Str), (∀ d ∈ l, d.2.length ≤ 4000) → ((stemsD l).flatMap fun d => d.2).length ≤ 4000 * l.length := by
    intro l
    induction l with
    | nil => intro _; simp [stemsD]
    | cons d l ih =>
      intro h
      have := ih fun d hd => h d (.tail _ hd)
      have := stems_count d.2
      have := h d (.head _)
      unfold stemsD at *
      rw [List.map_cons, List.flatMap_cons, List.length_append, List.length_cons]
      simp only at *
      omega
  have := h2 docs h
  unfold wordsD wordsOf
  simp only [List.length_nil] at h1
  omega
theorem take_all (docs : List (Int × Str)) {k : Nat} (h : k = docs.length) : docs.take k = docs := by rw [h, List.take_length]
/-- the terms of the first words -/
def termsD (docs : List (Int × Str)) (words : List Str) : List Term := words.map fun w => (w, postsOf (stemsD docs) w)
theorem made_eq (docs : List (Int × Str)) : madeF (stemsD docs) = (docs.map fun d => d.1, termsD docs (wordsD docs)) := by
  unfold madeF termsD wordsD
  congr 1
  unfold stemsD
  rw [List.map_map]
  rfl
end Ix
/-! ### the states -/
def docC : Codec (Int × Str) := pairC intC strC
theorem SlR.docAt {M : Nat → Prop} {w : World} {A : Option Addr} {n c : Nat} {l : List (Int × Str)} (h : SlR docC M w (.slice A n c) l) {k : Nat} (hk : k < l.length) :
    ∃ b off, A = some ⟨b, off, none⟩ ∧ b < w.heap.size ∧ w.cell? ⟨b, off + k * 2, none⟩ = some (.int .i64 l[k].1) ∧ w.cell? ⟨b, off + k * 2 + 1, none⟩ = some (.string (bs l[k].2)) ∧ -9223372036854775808 ≤ l[k].1 ∧ l[k].1 ≤ 9223372036854775807 := by
  obtain ⟨b, off, cs, rfl, hM, hb, ⟨c1, d1, rfl, ⟨rfl, hr⟩, ⟨rfl, _⟩⟩, hc⟩ := h.at_ hk
  exact ⟨b, off, rfl, hb, hc 0 _ rfl, hc 1 _ rfl, hr.1, hr.2⟩
/-- the blocks below B are as they were, but for one -/
structure Sav (B g : Nat) (w w' : World) : Prop where
  os : w'.os = w.os
  tape : w'.tape = w.tape
  output : w'.output = w.output
  size : w.heap.size ≤ w'.heap.size
  block : ∀ b, b < B → b ≠ g → w'.heap[b]? = w.heap[b]?
theorem Sav.refl (B g : Nat) (w : World) : Sav B g w w := ⟨rfl, rfl, rfl, Nat.le_refl _, fun _ _ _ => rfl⟩
theorem Sav.below {B g : Nat} {w w' w'' : World} (h : Sav B g w w') (hb : Below B w' w'') : Sav B g w w'' :=
  ⟨hb.os.trans h.os, hb.tape.trans h.tape, hb.output.trans h.output, Nat.le_trans h.size hb.size, fun b h1 h2 => (hb.block b h1).trans (h.block b h1 h2)⟩
theorem Sav.set {B g : Nat} {w w' : World} (h : Sav B g w w') (i : Nat) (u : Value) : Sav B g w (w'.setCell ⟨g, i, none⟩ u) :=
  ⟨h.os, h.tape, h.output, by simpa using h.size, fun b h1 h2 => (heap_set_ne _ _ _ h2).trans (h.block b h1 h2)⟩
theorem Sav.whole {B B0 g : Nat} {w w1 w' : World} (h : Sav B g w1 w') (h0 : Below B0 w w1) (h1 : B0 ≤ B) (h2 : B0 ≤ g) : Below B0 w w' :=
  ⟨h.os.trans h0.os, h.tape.trans h0.tape, h.output.trans h0.output, Nat.le_trans h0.size h.size, fun b hb => (h.block b (by omega) (by omega)).trans (h0.block b hb)⟩
theorem SlR.apart {α : Type} {C : Codec α} {w w' : World} {v : Value} {l : List α} {g : Nat} (h : SlR C (fun b => b ≤ g) w v l) (ha : Sav w.heap.size g w w') : SlR C (fun b => b ≤ g) w' v l :=
  h.keep (fun b h1 h2 => ha.block b h1 (by omega)) ha.size
/-- the words under way -/
structure Mk1 (B g3 : Nat) (vI vW : Value) (ids : List Int) (words : List Str) (w1 wr : World) : Prop where
  kx : Blk wr g3 25 #[vI, .slice none 0 0]
  ownI : Own intC M0 wr B 3 vI ids
  ownW : Own strC M0 wr B 9 vW words
  ne : ∀ b, vW.ownBlock = some b → vI.ownBlock ≠ some b
  apart : Sav B g3 w1 wr
  big : B ≤ wr.heap.size
variable {B g3 : Nat} {vI vW : Value} {ids : List Int} {words : List Str} {w1 wr : World}
theorem Mk1.ext (h : Mk1 B g3 vI vW ids words w1 wr) {w' : World} (hb : Below wr.heap.size wr w') : Mk1 B g3 vI vW ids words w1 w' :=
  ⟨h.kx.ext hb, h.ownI.ext hb, h.ownW.ext hb, h.ne, h.apart.below (hb.mono h.big), Nat.le_trans h.big hb.size⟩
theorem Mk1.word (h : Mk1 B g3 vI vW ids words w1 wr) {w' : World} {vW' : Value} {words' : List Str} (hb : Below wr.heap.size wr w') (ho : Own strC M0 w' wr.heap.size 9 vW' words') : Mk1 B g3 vI vW' ids words' w1 w' :=
  ⟨h.kx.ext hb, h.ownI.ext hb, ho.lower h.big, fun b h1 h2 => by have := ho.base b h1; have := h.ownI.lt b h2; omega, h.apart.below (hb.mono h.big), Nat.le_trans h.big hb.size⟩
theorem Mk1.push (h : Mk1 B g3 vI vW ids words w1 wr) (hg : g3 < B) {V1 V2 W : World} {vI' : Value} {ids' : List Int} (hV : Below wr.heap.size wr V1) (hgr : V1.grownBy V2 vI.ownBlock) (hown : Own intC M0 V2 B 3 vI' ids') (hor : vI'.ownBlock = vI.ownBlock ∨ vI'.ownBlock = some V1.heap.size) (hW : V2.setCell ⟨g3, 0, none⟩ vI' = W) : Mk1 B g3 vI' vW ids' words w1 W := by
  have hs := hV.size
  have same : ∀ b, b < wr.heap.size → vI.ownBlock ≠ some b → V2.heap[b]? = wr.heap[b]? := fun b h1 h2 => (hgr.block b (by omega) fun e => h2 e.symm).trans (hV.block b h1)
  have hbI : ∀ b, vI.ownBlock = some b → B ≤ b := h.ownI.base
  have k3 : Blk V2 g3 25 #[vI, .slice none 0 0] := h.kx.keep (same g3 h.kx.lt fun e => by have := hbI g3 e; omega)
  refine ⟨hW ▸ k3.set_ 0 vI', hown.flatC flatC_int fun b hb => ?_, h.ownW.flatC flatC_str fun b hb => ?_, fun b h1 h2 => ?_, ?_, ?_⟩
  · rw [← hW]; exact heap_set_ne _ _ _ (by have := hown.base b hb; omega)
  · rw [← hW, heap_set_ne _ _ _ (by have := h.ownW.base b hb; omega)]; exact same b (h.ownW.lt b hb) (h.ne b hb)
  · rcases hor with e | e
    · exact h.ne b h1 (e ▸ h2)
    · rw [e] at h2; injection h2 with h2; have := h.ownW.lt b h1; omega
  · rw [← hW]
    have hb2 : Below B wr V2 := ⟨hgr.os.trans hV.os, hgr.tape.trans hV.tape, hgr.output.trans hV.output, Nat.le_trans hs hgr.size, fun b hb => same b (by have := h.big; omega) fun e => by have := hbI b e; omega⟩
    exact (h.apart.below hb2).set 0 vI'
  · rw [← hW]; have := h.big; have := hgr.size; simp; omega
/-- the terms under way -/
structure Mk2 (g3 : Nat) (vI vT : Value) (ts : List Ix.Term) (w2 wr : World) : Prop where
  kx : Blk wr g3 25 #[vI, vT]
  own : Own termC (fun b => b ≤ g3) wr w2.heap.size 43 vT ts
  apart : Sav w2.heap.size g3 w2 wr
variable {vT : Value} {ts : List Ix.Term} {w2 : World}
theorem Mk2.ext (h : Mk2 g3 vI vT ts w2 wr) {w' : World} (hb : Below wr.heap.size wr w') : Mk2 g3 vI vT ts w2 w' :=
  ⟨h.kx.ext hb, h.own.ext hb, h.apart.below (hb.mono h.apart.size)⟩
theorem Mk2.push (h : Mk2 g3 vI vT ts w2 wr) (hg : g3 < w2.heap.size) {V2 W : World} {vT' : Value} {ts' : List Ix.Term} (hb : Below w2.heap.size wr V2) (hgr : wr.grownBy V2 vT.ownBlock) (hown : Own termC (fun b => b ≤ g3) V2 w2.heap.size 43 vT' ts') (hW : V2.setCell ⟨g3, 1, none⟩ vT' = W) : Mk2 g3 vI vT' ts' w2 W := by
  have k3 : Blk V2 g3 25 #[vI, vT] := h.kx.keep (hgr.block g3 h.kx.lt fun e => by have := h.own.base g3 e.symm; omega)
  refine ⟨hW ▸ k3.set_ 1 vT', hown.keep (fun b _ hor => ?_) (by rw [← hW]; simp) (fun b hb (e : b ≤ g3) => by have := hown.base b hb; omega), ?_⟩
  · rw [← hW]
    refine heap_set_ne _ _ _ ?_
    rcases hor with h1 | h1
    · omega
    · have := hown.base b h1; omega
  · rw [← hW]; exact (h.apart.below hb).set 1 vT'
end Go.Proofs.YtfjpedgddgbelaaGreatDoor

/-
  Indexes: what the law's helpers compute; plain.
-/
import Derived.Test.YtfjpedgddgbelaaGreatDoorG12
import Derived.Test.YtfjpedgddgbelaaGreatDoorG17
import Derived.Test.YtfjpedgddgbelaaGreatDoorG22
namespace Go.Proofs.YtfjpedgddgbelaaGreatDoor
namespace Ix
set_option linter.unusedVariables false
/-- the postings of a word -/
def postingsF (x : Idx) (w : Str) : List Post := (Al.look x.2 w).getD []
/-- the places of a text: the last posting of its number -/
def mineF (id : Int) (ps : List Post) : List Int := ps.foldl (fun m p => if p.1 = id then p.2 else m) []
def othersF (id : Int) (ps : List Post) : List Post := ps.filter fun p => !(p.1 == id)
def addedF (x a : Idx) (id : Int) (s : List Str) : Bool :=
  decide (a.1.length = x.1.length + 1) && a.1.contains id && decide ((indexF a).1 = 0) &&
  a.2.all (fun t => mineF id t.2 == occ t.1 s 0 && othersF id t.2 == postingsF x t.1) &&
  s.all (fun w => !((postingsF a w).length == 0)) && x.2.all (fun t => !((postingsF a t.1).length == 0))
def removedF (x r : Idx) (id : Int) : Bool :=
  decide ((r.1.length : Int) = x.1.length - 1) && !r.1.contains id && decide ((indexF r).1 = 0) &&
  x.2.all (fun t => othersF id t.2 == postingsF r t.1) && decide ((x.2.filter fun t => !((othersF id t.2).length == 0)).length = r.2.length)
theorem mineF_acc {id : Int} : ∀ {ps : List Post} (m : List Int), Al.Sorted ltI ps → ps.foldl (fun m p => if p.1 = id then p.2 else m) m = (Al.look ps id).getD m
  | [], m, _ => rfl
  | p :: r, m, h => by
    unfold Al.Sorted at h
    rw [List.pairwise_cons] at h
    rw [List.foldl_cons, mineF_acc _ h.2, Al.look]
    by_cases e : p.1 = id
    · rw [if_pos e, if_pos e, Al.look_none fun q hq e2 => totI.ne (h.1 q hq) (e.trans e2.symm)]
      rfl
    · rw [if_neg e, if_neg e]
theorem mineF_eq {id : Int} {ps : List Post} (h : Al.Sorted ltI ps) : mineF id ps = (Al.look ps id).getD [] := mineF_acc [] h
theorem look_removeT {ts : List Term} (h : Wf ts) (id : Int) {t : Term} (ht : t ∈ ts) : (Al.look (removeT id ts) t.1).getD [] = othersF id t.2 := by
  have hw := h.remove id
  by_cases e : othersF id t.2 = []
  · rw [e]
    cases hl : Al.look (removeT id ts) t.1 with
    | none => rfl
    | some q =>
      have hm := Al.look_mem hl
      unfold removeT at hm
      obtain ⟨hm1, hm2⟩ := List.mem_filter.1 hm
      obtain ⟨t', ht', e'⟩ := List.mem_map.1 hm1
      simp only [Prod.mk.injEq] at e'
      have h1 := Al.look_of_mem tot_str h.srt (show (t'.1, t'.2) ∈ ts from ht')
      have h2 := Al.look_of_mem tot_str h.srt (show (t.1, t.2) ∈ ts from ht)
      rw [e'.1, h2] at h1
      injection h1 with h1
      unfold othersF at e
      rw [← h1, e] at e'
      rw [← e'.2]
      rfl
  · rw [Al.look_of_mem tot_str hw.srt (show (t.1, othersF id t.2) ∈ removeT id ts from ?_)]
    · rfl
    · unfold removeT
      refine List.mem_filter.2 ⟨List.mem_map.2 ⟨t, ht, rfl⟩, ?_⟩
      show (!((othersF id t.2).length == 0)) = true
      cases ho : othersF id t.2 with
      | nil => exact absurd ho e
      | cons a r => rfl
theorem postings_ne {x : Idx} (h : Wf x.2) {t : Term} (ht : t ∈ x.2) : (postingsF x t.1).length ≠ 0 := by
  unfold postingsF
  rw [Al.look_of_mem tot_str h.srt (show (t.1, t.2) ∈ x.2 from ht)]
  exact fun e => (h.post t ht).1 (List.eq_nil_of_length_eq_zero e)
theorem added_law {x : Idx} (h : Canon x) {id : Int} {s : List Str} (hid : id ∉ x.1) (hc : Canon (addF x id s)) : addedF x (addF x id s) id s = true := by
  have hw := h.wf
  have hw' := hc.wf
  have hct := cont_putAll id s 0 hw
  have hrem := remove_put hw id s (strange h hid)
  unfold addedF
  simp only [Bool.and_eq_true, decide_eq_true_eq, List.all_eq_true, beq_iff_eq, Bool.not_eq_true', beq_eq_false_iff_ne]
  refine ⟨⟨⟨⟨⟨insId_len hid h.ids, ?_⟩, (indexF_zero _).2 hc⟩, fun t ht => ⟨?_, ?_⟩⟩, fun w hws => ?_⟩, fun t ht => ?_⟩
  · rw [List.contains_iff_mem]; exact mem_insId.2 (.inl rfl)
  · rw [mineF_eq (hw'.post t ht).2.1]
    have := hct t.1 id
    rw [if_pos rfl, strange h hid, List.nil_append] at this
    refine Eq.trans ?_ this
    unfold cont
    rw [Al.look_of_mem tot_str (show Al.Sorted ltS (putAll id s 0 x.2) from hw'.srt) (show (t.1, t.2) ∈ putAll id s 0 x.2 from ht)]
    rfl
  · rw [← look_removeT hw' id ht]
    show _ = (Al.look x.2 t.1).getD []
    rw [show removeT id (addF x id s).2 = x.2 from hrem]
  · have := hct w id
    rw [if_pos rfl, strange h hid, List.nil_append] at this
    have hne : cont (putAll id s 0 x.2) w id ≠ [] := by
      rw [this]
      exact fun e => (occ_nil w s 0).1 e hws
    obtain ⟨t, ht, e, _⟩ := mem_cont hne
    rw [← e]
    exact postings_ne hw' ht
  · rw [show x.2 = removeT id (addF x id s).2 from hrem.symm] at ht
    unfold removeT at ht
    obtain ⟨t', ht', e⟩ := List.mem_map.1 (List.mem_filter.1 ht).1
    have := postings_ne hw' ht'
    rw [← e]
    exact this
theorem removed_law {x : Idx} (h : Canon x) {id : Int} (hid : id ∈ x.1) : removedF x (removeF x id) id = true := by
  have hw := h.wf
  have hc := canon_remove h id
  unfold removedF
  simp only [Bool.and_eq_true, decide_eq_true_eq, List.all_eq_true, beq_iff_eq, Bool.not_eq_true']
  refine ⟨⟨⟨⟨?_, ?_⟩, (indexF_zero _).2 hc⟩, fun t ht => ?_⟩, ?_⟩
  · obtain ⟨k, hk, e⟩ := List.mem_iff_getElem.1 hid
    have h1 := eraseIdx_filter h.ids hk
    rw [e] at h1
    show ((x.1.filter fun n => !(n == id)).length : Int) = _
    rw [← h1, List.length_eraseIdx, if_pos hk]
    omega
  · show (x.1.filter fun n => !(n == id)).contains id = false
    cases hcn : (x.1.filter fun n => !(n == id)).contains id with
    | false => rfl
    | true =>
      have := (List.mem_filter.1 (List.contains_iff_mem.1 hcn)).2
      simp at this
  · exact (look_removeT hw id ht).symm
  · show _ = (removeT id x.2).length
    unfold removeT
    rw [List.filter_map, List.length_map]
    rfl
/-! ### how many terms there would be -/
/-- the law's count: from the words of the text, one more for each that is not known -/
def termsGo (x : Idx) (s : List Str) : Nat → Nat → Nat → Nat
  | 0, _, n => n
  | f + 1, i, n => if 990000 < n then termsGo x s f (i + 1) (if (postingsF x (s.getD i [])).length = 0 ∧ (s.getD i []) ∉ s.take i then n + 1 else n) else n
def termsF (x : Idx) (s : List Str) : Nat := termsGo x s s.length 0 x.2.length
theorem posts_none {x : Idx} (h : Wf x.2) (w : Str) : (postingsF x w).length = 0 ↔ Al.look x.2 w = none := by
  unfold postingsF
  cases hl : Al.look x.2 w with
  | none => simp
  | some q =>
    have := (h.post _ (Al.look_mem hl)).1
    simp only [Option.getD_some, List.length_eq_zero_iff, reduceCtorEq, iff_false]
    exact this
theorem termsGo_eq {x : Idx} (h : Wf x.2) (s : List Str) : ∀ (f i n : Nat), f = s.length - i → i ≤ s.length → 990000 < n → termsGo x s f i n = n + fresh x.2 (s.take i) (s.drop i)
  | 0, i, n, hf, hi, hn => by
    have : i = s.length := by omega
    subst this
    rw [termsGo, List.drop_length, fresh]
    omega
  | f + 1, i, n, hf, hi, hn => by
    have hlt : i < s.length := by omega
    rw [termsGo, if_pos hn, termsGo_eq h s f (i + 1) _ (by omega) (by omega) (by split <;> omega), List.take_succ_eq_append_getElem hlt, List.drop_eq_getElem_cons hlt, fresh, getD_get hlt]
    simp only [posts_none h]
    split <;> omega
theorem terms_law {x : Idx} (h : Canon x) (id : Int) {s : List Str} (hs : s.length ≤ 4000) : 1000000 < termsF x s ↔ 1000000 < (putAll id s 0 x.2).length := by
  have hw := h.wf
  have hl := putAll_len id x.2 s 0 [] hw (fun w => by simp)
  have hf := fresh_le x.2 s []
  unfold termsF
  by_cases hn : 990000 < x.2.length
  · rw [termsGo_eq hw s s.length 0 x.2.length (by omega) (Nat.zero_le _) hn, hl]
    rfl
  · have : termsGo x s s.length 0 x.2.length = x.2.length := by
      cases s with
      | nil => rfl
      | cons a s => rw [List.length_cons, termsGo, if_neg hn]
    rw [this]
    omega
end Ix
end Go.Proofs.YtfjpedgddgbelaaGreatDoor

/-
  Folders: what Create, Delete and Rename yield, and the laws; plain Lean, no program is named here.
-/
import Derived.Test.YtinmpjhmbciapaaDoorFoPure
namespace Go.Proofs.YtinmpjhmbciapaaDoor
def SortedS (l : List Str) : Prop := l.Pairwise fun a b => ltS a b = true
def insS : List Str → Str → List Str
  | [], s => [s]
  | a :: l, s => if ltS a s then a :: insS l s else if a = s then a :: l else s :: a :: l
theorem mem_insS (x s : Str) : ∀ l, x ∈ insS l s ↔ x = s ∨ x ∈ l
  | [] => by simp [insS]
  | a :: l => by
    rw [insS]
    split
    · rw [List.mem_cons, mem_insS x s l, List.mem_cons]
      exact or_left_comm
    · split
      · rename_i h
        subst h
        simp
      · simp
theorem sorted_insS (s : Str) : ∀ l, SortedS l → SortedS (insS l s)
  | [], _ => by simp [insS, SortedS]
  | a :: l, h => by
    unfold SortedS at h
    rw [List.pairwise_cons] at h
    rw [insS]
    split
    · rename_i hlt
      unfold SortedS
      rw [List.pairwise_cons]
      refine ⟨fun b hb => ?_, sorted_insS s l h.2⟩
      rcases (mem_insS b s l).1 hb with rfl | hb
      · exact hlt
      · exact h.1 b hb
    · split
      · unfold SortedS; rw [List.pairwise_cons]; exact h
      · rename_i h1 h2
        have hsa : ltS s a = true := by
          rcases ltS_total a s with h3 | h3 | h3
          · exact absurd h3 h1
          · exact absurd h3 h2
          · exact h3
        unfold SortedS
        rw [List.pairwise_cons, List.pairwise_cons]
        refine ⟨fun b hb => ?_, h⟩
        rcases List.mem_cons.1 hb with rfl | hb
        · exact hsa
        · exact ltS_trans hsa (h.1 b hb)
/-- Sorted lists of the same texts are the same. -/
theorem sorted_ext : ∀ {l m : List Str}, SortedS l → SortedS m → (∀ x, x ∈ l ↔ x ∈ m) → l = m
  | [], [], _, _, _ => rfl
  | [], b :: m, _, _, h => by have := (h b).2 (by simp); cases this
  | a :: l, [], _, _, h => by have := (h a).1 (by simp); cases this
  | a :: l, b :: m, hl, hm, h => by
    unfold SortedS at hl hm
    rw [List.pairwise_cons] at hl hm
    have hab : a = b := by
      have h1 := (h a).1 (by simp)
      have h2 := (h b).2 (by simp)
      rcases List.mem_cons.1 h1 with h1 | h1
      · exact h1
      · rcases List.mem_cons.1 h2 with h2 | h2
        · exact h2.symm
        · exact absurd (ltS_trans (hl.1 b h2) (hm.1 a h1)) (by rw [ltS_irrefl]; simp)
    subst hab
    congr 1
    refine sorted_ext hl.2 hm.2 fun x => ?_
    constructor
    · intro hx
      rcases List.mem_cons.1 ((h x).1 (by simp [hx])) with rfl | hx'
      · exact absurd (hl.1 x hx) (by rw [ltS_irrefl]; simp)
      · exact hx'
    · intro hx
      rcases List.mem_cons.1 ((h x).2 (by simp [hx])) with rfl | hx'
      · exact absurd (hm.1 x hx) (by rw [ltS_irrefl]; simp)
      · exact hx'
theorem sorted_insS_mem {l : List Str} {s : Str} (hl : SortedS l) (hs : s ∈ l) : insS l s = l :=
  sorted_ext (sorted_insS s l hl) hl fun x => by rw [mem_insS]; exact ⟨fun h => by rcases h with rfl | h; exact hs; exact h, .inr⟩
theorem length_insS (s : Str) : ∀ l, SortedS l → s ∉ l → (insS l s).length = l.length + 1
  | [], _, _ => rfl
  | a :: l, h, hs => by
    unfold SortedS at h
    rw [List.pairwise_cons] at h
    simp only [List.mem_cons, not_or] at hs
    rw [insS]
    split
    · rw [List.length_cons, length_insS s l h.2 hs.2, List.length_cons]
    · rw [if_neg (fun e => hs.1 e.symm)]; rfl
def withF (l : List Str) (s : Str) : List Str := (ancF s).foldl insS l
theorem foldl_insS_mem (x : Str) : ∀ (m l : List Str), x ∈ m.foldl insS l ↔ x ∈ m ∨ x ∈ l
  | [], l => by simp
  | a :: m, l => by
    rw [List.foldl_cons, foldl_insS_mem x m, mem_insS, List.mem_cons]
    constructor
    · rintro (h | h | h)
      · exact .inl (.inr h)
      · exact .inl (.inl h)
      · exact .inr h
    · rintro ((h | h) | h)
      · exact .inr (.inl h)
      · exact .inl h
      · exact .inr (.inr h)
theorem foldl_insS_sorted : ∀ (m l : List Str), SortedS l → SortedS (m.foldl insS l)
  | [], _, h => h
  | a :: m, l, h => foldl_insS_sorted m _ (sorted_insS a l h)
theorem mem_withF (l : List Str) (s x : Str) : x ∈ withF l s ↔ (x ≠ [] ∧ underF s x) ∨ x ∈ l := by rw [withF, foldl_insS_mem, mem_anc]
theorem sorted_withF {l : List Str} (s : Str) (h : SortedS l) : SortedS (withF l s) := foldl_insS_sorted _ _ h
theorem foldl_withF_mem (x : Str) : ∀ (m l : List Str), x ∈ m.foldl withF l ↔ (∃ s ∈ m, x ≠ [] ∧ underF s x) ∨ x ∈ l
  | [], l => by simp
  | a :: m, l => by
    rw [List.foldl_cons, foldl_withF_mem x m, mem_withF]
    constructor
    · rintro (⟨s, hs, h⟩ | h | h)
      · exact .inl ⟨s, by simp [hs], h⟩
      · exact .inl ⟨a, by simp, h⟩
      · exact .inr h
    · rintro (⟨s, hs, h⟩ | h)
      · rcases List.mem_cons.1 hs with rfl | hs
        · exact .inr (.inl h)
        · exact .inl ⟨s, hs, h⟩
      · exact .inr (.inr h)
theorem foldl_withF_sorted : ∀ (m l : List Str), SortedS l → SortedS (m.foldl withF l)
  | [], _, h => h
  | a :: m, _, h => foldl_withF_sorted m _ (sorted_withF a h)

/-! ### Valid lists -/
def inboxF : Str := [105, 110, 98, 111, 120]
def notAfter (l : List Str) (i : Nat) (s : Str) : Bool := match l[i - 1]? with | some p => decide (0 < i) && !ltS p s | none => false
def foErr (l : List Str) (i : Nat) : Option Int :=
  match l[i]? with
  | none => none
  | some s => if !pathF s then some 10 else if notAfter l i s then some 19 else if aboveF s ≠ [] ∧ aboveF s ∉ l.take i then some 6 else none
def foldersF (l : List Str) : Int × Int :=
  if 100 < l.length then (2, -1) else if (scanF (foErr l) 0 l.length).1 ≠ 0 then scanF (foErr l) 0 l.length else if inboxF ∈ l then (0, 0) else (6, -2)
structure ValidF (l : List Str) : Prop where
  len : l.length ≤ 100
  path : ∀ s ∈ l, pathF s = true
  sorted : SortedS l
  closed : ∀ s ∈ l, aboveF s = [] ∨ aboveF s ∈ l
  inbox : inboxF ∈ l
theorem foErr_ne {l : List Str} : ∀ i c, foErr l i = some c → c ≠ 0 := fun i c hc => by
  unfold foErr at hc
  split at hc
  · cases hc
  · split at hc
    · cases hc; decide
    · split at hc
      · cases hc; decide
      · split at hc
        · cases hc; decide
        · cases hc
theorem sorted_adj {l : List Str} (h : ∀ (i : Nat) (hi : i + 1 < l.length), ltS l[i] l[i + 1] = true) : SortedS l := by
  refine List.pairwise_iff_getElem.2 fun i j hi hj hij => ?_
  induction j with
  | zero => omega
  | succ j ih =>
    by_cases e : i = j
    · subst e; exact h i hj
    · exact ltS_trans (ih (by omega) (by omega)) (h j hj)
theorem valid_of_folders {l : List Str} (h : (foldersF l).1 = 0) : ValidF l := by
  unfold foldersF at h
  split at h
  · cases h
  · rename_i h1
    split at h
    · rename_i h2; exact absurd h h2
    · rename_i h2
      split at h
      · rename_i h3
        have hn := scan_code foErr_ne (by simpa using h2)
        have key : ∀ (i : Nat) (hi : i < l.length), pathF l[i] = true ∧ (0 < i → ltS (l[i - 1]'(by omega)) l[i] = true) ∧ (aboveF l[i] = [] ∨ aboveF l[i] ∈ l) := fun i hi => by
          have h4 := hn i hi
          unfold foErr at h4
          rw [List.getElem?_eq_getElem hi] at h4
          simp only [notAfter, List.getElem?_eq_getElem (show i - 1 < l.length by omega)] at h4
          split at h4
          · cases h4
          · split at h4
            · cases h4
            · split at h4
              · cases h4
              · rename_i a1 a2 a3
                refine ⟨by simpa using a1, fun h0 => ?_, ?_⟩
                · simpa [h0] using a2
                · by_cases hz : aboveF l[i] = []
                  · exact .inl hz
                  · exact .inr (Classical.byContradiction fun hc => a3 ⟨hz, fun hm => hc (List.mem_of_mem_take hm)⟩)
        refine ⟨by omega, fun s hs => ?_, sorted_adj fun i hi => ?_, fun s hs => ?_, h3⟩
        · obtain ⟨i, hi, rfl⟩ := List.getElem_of_mem hs
          exact (key i hi).1
        · exact (key (i + 1) hi).2.1 (by omega)
        · obtain ⟨i, hi, rfl⟩ := List.getElem_of_mem hs
          exact (key i hi).2.2
      · cases h
theorem ltS_prefix (t r : Str) (c : UInt8) : ltS t (t ++ c :: r) = true := by
  induction t with
  | nil => rfl
  | cons a t ih =>
    have e : ltS (a :: t) (a :: (t ++ c :: r)) = (decide (a < a) || (a == a && ltS t (t ++ c :: r))) := rfl
    rw [List.cons_append, e, ih]; simp
theorem above_ltS {s : Str} (h : aboveF s ≠ []) : ltS (aboveF s) s = true := by
  by_cases hs : 47 ∈ s
  · obtain ⟨p, q, rfl, hq⟩ := cut_last s hs
    rw [above_append p q hq]
    exact ltS_prefix p q 47
  · exact absurd (above_noslash s hs) h
theorem folders_of_valid {l : List Str} (h : ValidF l) : foldersF l = (0, 0) := by
  have hs : scanF (foErr l) 0 l.length = (0, 0) := scan_none fun j hj => by
    unfold foErr
    rw [List.getElem?_eq_getElem hj]
    simp only [notAfter, List.getElem?_eq_getElem (show j - 1 < l.length by omega)]
    rw [if_neg (by simp [h.path _ (List.getElem_mem hj)]), if_neg, if_neg]
    · rintro ⟨h1, h2⟩
      rcases h.closed _ (List.getElem_mem hj) with h3 | h3
      · exact h1 h3
      · obtain ⟨k, hk, hke⟩ := List.getElem_of_mem h3
        refine h2 (List.mem_take_iff_getElem.2 ⟨k, ?_, hke⟩)
        rcases Nat.lt_trichotomy k j with h4 | h4 | h4
        · omega
        · subst h4
          have := above_ltS h1
          rw [← hke, ltS_irrefl] at this
          cases this
        · have h5 := List.pairwise_iff_getElem.1 h.sorted j k hj hk h4
          rw [hke] at h5
          have h6 := ltS_trans (above_ltS h1) h5
          rw [ltS_irrefl] at h6
          cases h6
    · by_cases h0 : 0 < j
      · have := List.pairwise_iff_getElem.1 h.sorted (j - 1) j (by omega) hj (by omega)
        simp [this]
      · simp [h0]
  unfold foldersF
  rw [if_neg (by have := h.len; omega), hs, if_neg (by simp), if_pos h.inbox]
theorem ValidF.under {l : List Str} (h : ValidF l) : ∀ (n : Nat) (s t : Str), s.length ≤ n → s ∈ l → t ≠ [] → underF s t → t ∈ l
  | 0, s, t, hn, hs, _, _ => by
    have : s = [] := List.eq_nil_of_length_eq_zero (by omega)
    subst this
    exact absurd rfl (path_ne (h.path _ hs))
  | n + 1, s, t, hn, hs, ht, hu => by
    have hne := path_ne (h.path _ hs)
    rcases under_above hu with rfl | hu
    · exact hs
    · rcases h.closed s hs with h1 | h1
      · rw [h1] at hu
        rcases hu with h2 | ⟨r, h2⟩
        · exact absurd h2.symm ht
        · simp at h2
      · have := above_lt s hne
        exact h.under n (aboveF s) t (by omega) h1 ht hu
theorem ValidF.up {l : List Str} (h : ValidF l) {s t : Str} (hs : s ∈ l) (ht : t ≠ []) (hu : underF s t) : t ∈ l := h.under _ s t (Nat.le_refl _) hs ht hu
theorem closed_of {l : List Str} (h : ∀ s ∈ l, ∀ t, t ≠ [] → underF s t → t ∈ l) : ∀ s ∈ l, aboveF s = [] ∨ aboveF s ∈ l := fun s hs => by
  by_cases hz : aboveF s = []
  · exact .inl hz
  · exact .inr (h s hs _ hz (above_under (under_refl _) hz))

/-! ### What the calls yield -/
def fewF (l : List Str) : List Str × Int × Int := if 100 < l.length then ([], 2, -1) else (l, 0, 0)
def createF (l : List Str) (n : Str) : List Str × Int × Int :=
  if (foldersF l).1 ≠ 0 then ([], foldersF l) else if pathF n = false then ([], 10, -3) else if n ∈ l then ([], 7, -3) else fewF (withF l n)
def deleteF (l : List Str) (n : Str) : List Str × Int × Int :=
  if (foldersF l).1 ≠ 0 then ([], foldersF l) else if n ∉ l then ([], 6, -3) else if n = inboxF ∨ l.any (fun s => belowF s n) = true then ([], 8, -3) else (l.filter (fun s => s != n), 0, 0)
def inB (s f : Str) : Bool := s == f || belowF s f
theorem inB_iff (s f : Str) : inB s f = true ↔ underF s f := by unfold inB underF; rw [Bool.or_eq_true, beq_iff_eq, below_iff]
def keptF (l : List Str) (f : Str) : List Str := l.filter fun s => !inB s f
def movedF (l : List Str) (f t : Str) : List Str := (l.filter fun s => inB s f).map fun s => t ++ s.drop f.length
def renameF (l : List Str) (f t : Str) : List Str × Int × Int :=
  if (foldersF l).1 ≠ 0 then ([], foldersF l) else if f ∉ l then ([], 6, -3) else if f = inboxF then ([], 8, -3) else if pathF t = false then ([], 10, -4) else if inB t f = true then ([], 14, -4) else if t ∈ l then ([], 7, -4)
  else if (movedF l f t).all pathF = false then ([], 10, -4) else fewF ((movedF l f t).foldl withF (keptF l f))
theorem few_ok {l a : List Str} {x : Int} (h : fewF l = (a, 0, x)) : a = l ∧ l.length ≤ 100 ∧ x = 0 := by
  unfold fewF at h
  split at h
  · injection h with e1 e2; injection e2 with e2 e3; cases e2
  · injection h with e1 e2; injection e2 with e2 e3; exact ⟨e1.symm, by omega, e3.symm⟩
theorem few_zero {l : List Str} (h : l.length ≤ 100) : fewF l = (l, 0, 0) := by unfold fewF; rw [if_neg (by omega)]
theorem few_nil {l a : List Str} {c x : Int} (h : fewF l = (a, c, x)) (hc : c ≠ 0) : a = [] := by
  unfold fewF at h
  split at h
  · injection h with e1 e2; exact e1.symm
  · injection h with e1 e2; injection e2 with e2 e3; exact absurd e2.symm hc
theorem create_ok {l a : List Str} {n : Str} {x : Int} (h : createF l n = (a, 0, x)) : ValidF l ∧ pathF n = true ∧ n ∉ l ∧ a = withF l n ∧ a.length ≤ 100 := by
  unfold createF at h
  split at h
  · rename_i h1; injection h with e1 e2; rw [e2] at h1; exact absurd rfl h1
  · split at h
    · injection h with e1 e2; injection e2 with e2 e3; cases e2
    · split at h
      · injection h with e1 e2; injection e2 with e2 e3; cases e2
      · rename_i h1 h2 h3
        obtain ⟨h4, h5, _⟩ := few_ok h
        exact ⟨valid_of_folders (by simpa using h1), by simpa using h2, h3, h4, by rw [h4]; exact h5⟩
theorem create_nil {l a : List Str} {n : Str} {c x : Int} (h : createF l n = (a, c, x)) (hc : c ≠ 0) : a = [] := by
  unfold createF at h
  split at h
  · injection h with e1 e2; exact e1.symm
  · split at h
    · injection h with e1 e2; exact e1.symm
    · split at h
      · injection h with e1 e2; exact e1.symm
      · exact few_nil h hc
theorem delete_ok {l a : List Str} {n : Str} {x : Int} (h : deleteF l n = (a, 0, x)) : ValidF l ∧ n ∈ l ∧ n ≠ inboxF ∧ (∀ s ∈ l, belowF s n = false) ∧ a = l.filter (fun s => s != n) := by
  unfold deleteF at h
  split at h
  · rename_i h1; injection h with e1 e2; rw [e2] at h1; exact absurd rfl h1
  · split at h
    · injection h with e1 e2; injection e2 with e2 e3; cases e2
    · split at h
      · injection h with e1 e2; injection e2 with e2 e3; cases e2
      · rename_i h1 h2 h3
        injection h with e1 e2
        refine ⟨valid_of_folders (by simpa using h1), Classical.not_not.1 h2, fun e => h3 (.inl e), fun s hs => ?_, e1.symm⟩
        cases hb : belowF s n with
        | false => rfl
        | true => exact absurd (.inr (List.any_eq_true.2 ⟨s, hs, hb⟩)) h3
theorem rename_ok {l a : List Str} {f t : Str} {x : Int} (h : renameF l f t = (a, 0, x)) : ValidF l ∧ f ∈ l ∧ f ≠ inboxF ∧ pathF t = true ∧ ¬ underF t f ∧ t ∉ l ∧ (∀ s ∈ movedF l f t, pathF s = true) ∧ a = (movedF l f t).foldl withF (keptF l f) ∧ a.length ≤ 100 := by
  unfold renameF at h
  split at h
  · rename_i h1; injection h with e1 e2; rw [e2] at h1; exact absurd rfl h1
  · split at h
    · injection h with e1 e2; injection e2 with e2 e3; cases e2
    · split at h
      · injection h with e1 e2; injection e2 with e2 e3; cases e2
      · split at h
        · injection h with e1 e2; injection e2 with e2 e3; cases e2
        · split at h
          · injection h with e1 e2; injection e2 with e2 e3; cases e2
          · split at h
            · injection h with e1 e2; injection e2 with e2 e3; cases e2
            · split at h
              · injection h with e1 e2; injection e2 with e2 e3; cases e2
              · rename_i h1 h2 h3 h4 h5 h6 h7
                obtain ⟨h8, h9, _⟩ := few_ok h
                exact ⟨valid_of_folders (by simpa using h1), Classical.not_not.1 h2, h3, by simpa using h4, fun hu => h5 ((inB_iff _ _).2 hu), h6, by simpa using h7, h8, by rw [h8]; exact h9⟩
theorem rename_nil {l a : List Str} {f t : Str} {c x : Int} (h : renameF l f t = (a, c, x)) (hc : c ≠ 0) : a = [] := by
  unfold renameF at h
  split at h
  · injection h with e1 e2; exact e1.symm
  · split at h
    · injection h with e1 e2; exact e1.symm
    · split at h
      · injection h with e1 e2; exact e1.symm
      · split at h
        · injection h with e1 e2; exact e1.symm
        · split at h
          · injection h with e1 e2; exact e1.symm
          · split at h
            · injection h with e1 e2; exact e1.symm
            · split at h
              · injection h with e1 e2; exact e1.symm
              · exact few_nil h hc

/-! ### The laws -/
theorem create_stays {l a : List Str} {n : Str} {x : Int} (h : createF l n = (a, 0, x)) : foldersF a = (0, 0) := by
  obtain ⟨hv, hp, hn, rfl, hl⟩ := create_ok h
  refine folders_of_valid ⟨hl, fun s hs => ?_, sorted_withF n hv.sorted, closed_of fun s hs t ht hu => ?_, ?_⟩
  · rcases (mem_withF l n s).1 hs with ⟨_, h2⟩ | h2
    · exact path_under hp h2
    · exact hv.path s h2
  · rw [mem_withF] at hs ⊢
    rcases hs with ⟨_, h2⟩ | h2
    · exact .inl ⟨ht, under_trans h2 hu⟩
    · exact .inr (hv.up h2 ht hu)
  · rw [mem_withF]; exact .inr hv.inbox
theorem delete_stays {l a : List Str} {n : Str} {x : Int} (h : deleteF l n = (a, 0, x)) : foldersF a = (0, 0) := by
  obtain ⟨hv, hn, hi, hb, rfl⟩ := delete_ok h
  have hm : ∀ s, s ∈ l.filter (fun s => s != n) ↔ s ∈ l ∧ s ≠ n := fun s => by simp [List.mem_filter]
  refine folders_of_valid ⟨Nat.le_trans (List.length_filter_le _ _) hv.len, fun s hs => hv.path s ((hm s).1 hs).1, List.Pairwise.filter _ hv.sorted, closed_of fun s hs t ht hu => ?_, (hm _).2 ⟨hv.inbox, fun e => hi e.symm⟩⟩
  obtain ⟨h1, h2⟩ := (hm s).1 hs
  refine (hm t).2 ⟨hv.up h1 ht hu, ?_⟩
  rintro rfl
  rcases hu with h3 | h3
  · exact h2 h3
  · have := hb s h1
    rw [(below_iff s t).2 h3] at this
    cases this
theorem mem_kept (l : List Str) (f s : Str) : s ∈ keptF l f ↔ s ∈ l ∧ ¬ underF s f := by
  unfold keptF
  rw [List.mem_filter, ← inB_iff]
  simp
theorem mem_moved (l : List Str) (f t y : Str) : y ∈ movedF l f t ↔ ∃ s ∈ l, underF s f ∧ y = t ++ s.drop f.length := by
  unfold movedF
  simp only [List.mem_map, List.mem_filter, inB_iff]
  constructor
  · rintro ⟨s, ⟨h1, h2⟩, rfl⟩; exact ⟨s, h1, h2, rfl⟩
  · rintro ⟨s, h1, h2, rfl⟩; exact ⟨s, ⟨h1, h2⟩, rfl⟩
theorem moved_under {f t s : Str} (h : underF s f) : underF (t ++ s.drop f.length) t := by
  rcases h with rfl | ⟨r, rfl⟩
  · left; simp
  · right; exact ⟨r, by simp⟩
theorem inbox_under {f : Str} (hf : f ≠ inboxF) : ¬ underF inboxF f := by
  rintro (h | ⟨r, h⟩)
  · exact hf h.symm
  · have : (47 : UInt8) ∈ inboxF := by rw [h]; simp
    exact absurd this (by decide)
theorem rename_stays {l a : List Str} {f t : Str} {x : Int} (h : renameF l f t = (a, 0, x)) : foldersF a = (0, 0) := by
  obtain ⟨hv, hf, hi, hp, hu, ht, hm, rfl, hl⟩ := rename_ok h
  refine folders_of_valid ⟨hl, fun s hs => ?_, foldl_withF_sorted _ _ (List.Pairwise.filter _ hv.sorted), closed_of fun s hs y hy huy => ?_, ?_⟩
  · rcases (foldl_withF_mem s _ _).1 hs with ⟨m, h1, _, h2⟩ | h2
    · exact path_under (hm m h1) h2
    · exact hv.path s ((mem_kept l f s).1 h2).1
  · rw [foldl_withF_mem] at hs ⊢
    rcases hs with ⟨m, h1, _, h2⟩ | h2
    · exact .inl ⟨m, h1, hy, under_trans h2 huy⟩
    · obtain ⟨h3, h4⟩ := (mem_kept l f s).1 h2
      exact .inr ((mem_kept l f y).2 ⟨hv.up h3 hy huy, fun h5 => h4 (under_trans huy h5)⟩)
  · rw [foldl_withF_mem]
    exact .inr ((mem_kept l f _).2 ⟨hv.inbox, inbox_under hi⟩)
/-- Deleting what has been created. -/
theorem delete_create {l a : List Str} {n : Str} {x : Int} (h : createF l n = (a, 0, x)) (ha : aboveF n = [] ∨ aboveF n ∈ l) : deleteF a n = (l, 0, 0) := by
  have hs := create_stays h
  obtain ⟨hv, hp, hn, rfl, hl⟩ := create_ok h
  have hne := path_ne hp
  have hmem : ∀ y, y ∈ withF l n ↔ y = n ∨ y ∈ l := fun y => by
    rw [mem_withF]
    constructor
    · rintro (⟨h1, h2⟩ | h2)
      · rcases under_above h2 with h3 | h3
        · exact .inl h3.symm
        · rcases ha with h4 | h4
          · rw [h4] at h3
            rcases h3 with h5 | ⟨r, h5⟩
            · exact absurd h5.symm h1
            · simp at h5
          · exact .inr (hv.up h4 h1 h3)
      · exact .inr h2
    · rintro (rfl | h2)
      · exact .inl ⟨hne, under_refl _⟩
      · exact .inr h2
  unfold deleteF
  rw [hs, if_neg (by simp), if_neg (by rw [Classical.not_not, hmem]; exact .inl rfl), if_neg]
  · congr 1
    refine sorted_ext (List.Pairwise.filter _ (sorted_withF n hv.sorted)) hv.sorted fun y => ?_
    rw [List.mem_filter, hmem]
    simp only [bne_iff_ne, ne_eq]
    constructor
    · rintro ⟨h1 | h1, h2⟩
      · exact absurd h1 h2
      · exact h1
    · intro h1
      exact ⟨.inr h1, fun e => hn (e ▸ h1)⟩
  · rintro (h1 | h1)
    · exact hn (h1 ▸ hv.inbox)
    · obtain ⟨s, h2, h3⟩ := List.any_eq_true.1 h1
      obtain ⟨r, hr⟩ := (below_iff s n).1 h3
      rcases (hmem s).1 h2 with h4 | h4
      · rw [h4] at hr
        have := congrArg List.length hr
        simp at this
      · exact hn (hv.up h4 hne (.inr ⟨r, hr⟩))
theorem create_longer {l a : List Str} {n : Str} {x : Int} (h : createF l n = (a, 0, x)) (h1 : aboveF n ≠ []) (h2 : aboveF n ∉ l) : l.length + 1 < a.length := by
  obtain ⟨hv, hp, hn, rfl, hl⟩ := create_ok h
  have hne := path_ne hp
  have hlt : (insS (insS l n) (aboveF n)).length = l.length + 2 := by
    rw [length_insS _ _ (sorted_insS n l hv.sorted), length_insS _ _ hv.sorted hn]
    rw [mem_insS]
    rintro (h3 | h3)
    · have := above_lt n hne
      rw [h3] at this; omega
    · exact h2 h3
  have hmono : ∀ (m b : List Str), SortedS b → b.length ≤ (m.foldl insS b).length := by
    intro m
    induction m with
    | nil => intro b _; exact Nat.le_refl _
    | cons c m ih =>
      intro b hb
      rw [List.foldl_cons]
      refine Nat.le_trans ?_ (ih _ (sorted_insS c b hb))
      by_cases hc : c ∈ b
      · rw [sorted_insS_mem hb hc]; exact Nat.le_refl _
      · rw [length_insS c b hb hc]; omega
  have : withF l n = (ancF (aboveF (aboveF n))).foldl insS (insS (insS l n) (aboveF n)) := by
    rw [withF, anc_step n hne, anc_step _ h1]
    rfl
  rw [this]
  have := hmono (ancF (aboveF (aboveF n))) _ (sorted_insS (aboveF n) _ (sorted_insS n l hv.sorted))
  omega
/-- Renaming back. -/
theorem rename_back {l a : List Str} {f t : Str} {x : Int} (h : renameF l f t = (a, 0, x)) (hab : aboveF t = [] ∨ (aboveF t ∈ l ∧ ¬ underF (aboveF t) f)) : renameF a t f = (l, 0, 0) := by
  have hs := rename_stays h
  obtain ⟨hv, hf, hi, hp, hu, ht, hm, ha, hl⟩ := rename_ok h
  have hfp := hv.path f hf
  have hfn := path_ne hfp
  have htn := path_ne hp
  have hlt : ∀ s, underF s t → s ∉ l := fun s h1 h2 => ht (hv.up h2 htn h1)
  have hmem : ∀ y, y ∈ a ↔ (∃ s ∈ l, underF s f ∧ y = t ++ s.drop f.length) ∨ (y ∈ l ∧ ¬ underF y f) := fun y => by
    rw [ha, foldl_withF_mem, mem_kept]
    constructor
    · rintro (⟨m, h1, h2, h3⟩ | h1)
      · obtain ⟨s, h4, h5, rfl⟩ := (mem_moved l f t m).1 h1
        have h6 := moved_under (t := t) h5
        rcases under_total h3 h6 with h7 | h7
        · rcases h7 with rfl | ⟨r, rfl⟩
          · exact .inl ⟨f, hf, under_refl _, by simp⟩
          · left
            rcases h5 with rfl | ⟨q, rfl⟩
            · simp only [List.drop_length, List.append_nil] at h3
              rcases h3 with h8 | ⟨z, h8⟩
              · have := congrArg List.length h8; simp at this
              · have h9 := congrArg List.length h8; simp only [List.length_append, List.length_cons] at h9; omega
            · rw [show (f ++ 47 :: q).drop f.length = 47 :: q by simp] at h3
              refine ⟨f ++ 47 :: r, ?_, .inr ⟨r, rfl⟩, by simp⟩
              refine hv.up h4 (by simp) ?_
              rcases h3 with h8 | ⟨z, h8⟩
              · left
                rw [List.append_cancel_left h8]
              · right
                refine ⟨z, ?_⟩
                rw [List.append_assoc] at h8 ⊢
                rw [List.append_cancel_left h8]
        · rcases under_above h7 with h8 | h8
          · subst h8; exact .inl ⟨f, hf, under_refl _, by simp⟩
          · rcases hab with h9 | ⟨h9, h10⟩
            · rw [h9] at h8
              rcases h8 with e | ⟨r, e⟩
              · exact absurd e.symm h2
              · simp at e
            · exact .inr ⟨hv.up h9 h2 h8, fun h11 => h10 (under_trans h8 h11)⟩
      · exact .inr h1
    · rintro (⟨s, h1, h2, rfl⟩ | h1)
      · refine .inl ⟨_, (mem_moved l f t _).2 ⟨s, h1, h2, rfl⟩, ?_, under_refl _⟩
        intro e
        exact htn (List.append_eq_nil_iff.1 e).1
      · exact .inr h1
  have hta : ∀ y ∈ a, (underF y t ↔ ∃ s ∈ l, underF s f ∧ y = t ++ s.drop f.length) := fun y hy => by
    constructor
    · intro h1
      rcases (hmem y).1 hy with h2 | ⟨h2, _⟩
      · exact h2
      · exact absurd h2 (hlt y h1)
    · rintro ⟨s, _, h2, rfl⟩
      exact moved_under h2
  have back : ∀ s, underF s f → f ++ (t ++ s.drop f.length).drop t.length = s := fun s h1 => by
    rw [List.drop_left]
    rcases h1 with rfl | ⟨r, rfl⟩ <;> simp
  have hmoved : ∀ y, y ∈ movedF a t f ↔ y ∈ l ∧ underF y f := fun y => by
    rw [mem_moved]
    constructor
    · rintro ⟨z, h1, h2, rfl⟩
      obtain ⟨s, h3, h4, rfl⟩ := (hta z h1).1 h2
      rw [back s h4]
      exact ⟨h3, h4⟩
    · rintro ⟨h1, h2⟩
      exact ⟨t ++ y.drop f.length, (hmem _).2 (.inl ⟨y, h1, h2, rfl⟩), moved_under h2, (back y h2).symm⟩
  have hkept : ∀ y, y ∈ keptF a t ↔ y ∈ l ∧ ¬ underF y f := fun y => by
    rw [mem_kept]
    constructor
    · rintro ⟨h1, h2⟩
      rcases (hmem y).1 h1 with h3 | h3
      · exact absurd ((hta y h1).2 h3) h2
      · exact h3
    · intro h1
      refine ⟨(hmem y).2 (.inr h1), fun h2 => hlt y h2 h1.1⟩
  have hres : (movedF a t f).foldl withF (keptF a t) = l := by
    have hva := valid_of_folders (l := a) (by rw [hs])
    refine sorted_ext (foldl_withF_sorted _ _ (List.Pairwise.filter _ hva.sorted)) hv.sorted fun y => ?_
    rw [foldl_withF_mem, hkept]
    constructor
    · rintro (⟨m, h1, h2, h3⟩ | h1)
      · exact hv.up ((hmoved m).1 h1).1 h2 h3
      · exact h1.1
    · intro h1
      by_cases h2 : underF y f
      · exact .inl ⟨y, (hmoved y).2 ⟨h1, h2⟩, path_ne (hv.path y h1), under_refl _⟩
      · exact .inr ⟨h1, h2⟩
  unfold renameF
  rw [hs, if_neg (by simp), if_neg, if_neg (fun e : t = inboxF => ht (e ▸ hv.inbox)), if_neg (by simp [hfp]), if_neg, if_neg, if_neg, hres, few_zero hv.len]
  · rw [Bool.not_eq_false, List.all_eq_true]
    intro y hy
    exact hv.path y ((hmoved y).1 hy).1
  · intro h1
    rcases (hmem f).1 h1 with ⟨s, h2, h3, h4⟩ | ⟨_, h2⟩
    · exact hlt f (h4 ▸ moved_under h3) hf
    · exact h2 (under_refl _)
  · rw [inB_iff]
    intro h1
    exact hlt f h1 hf
  · rw [Classical.not_not, hmem]
    exact .inl ⟨f, hf, under_refl _, by simp⟩
end Go.Proofs.YtinmpjhmbciapaaDoor

/-
  Contracts and plain facts, one after another: Queries: their levels, their nodes in order, the fault; plain; Queries in memory: a node's four cells, its parts a row of nodes; f: how deep the rows go. No program is named here; index.rising, index.has; slices.Clone on terms, postings, ints; Boxes under names; the stores of two cells. No program is named here; A text cut at spaces, piece by piece; plain.
-/
import Derived.Test.YtiohhajkegpebaaGreatDoorR1
import Derived.Test.YtiohhajkegpebaaGreatDoorR6
import Derived.Test.YtiohhajkegpebaaGreatDoorR7
import Derived.Test.YtiohhajkegpebaaGreatDoorShelf
import Derived.Lib.SliceRun
import Derived.Lib.IndexBytes
namespace Go.Proofs.YtiohhajkegpebaaGreatDoor
set_option linter.unusedVariables false
/-- A text cut at the spaces. -/
def splitS : Str → List Str
  | [] => [[]]
  | c :: t => if c = 32 then [] :: splitS t else match splitS t with | [] => [[c]] | h :: r => (c :: h) :: r
theorem splitS_ne : ∀ s : Str, splitS s ≠ []
  | [] => by simp [splitS]
  | c :: t => by
    unfold splitS
    split
    · simp
    · split <;> simp
theorem splitS_no : ∀ s : Str, 32 ∉ s → splitS s = [s]
  | [], _ => rfl
  | c :: t, h => by
    simp only [List.mem_cons, not_or] at h
    rw [splitS, if_neg (fun e => h.1 e.symm), splitS_no t h.2]
theorem splitS_append (a b : Str) : splitS (a ++ 32 :: b) = splitS a ++ splitS b := by
  induction a with
  | nil => simp [splitS]
  | cons c t ih =>
    rw [List.cons_append, splitS, ih, splitS]
    split
    · simp
    · cases h : splitS t with
      | nil => exact absurd h (splitS_ne t)
      | cons x r => simp
theorem splitS_cut (q r : Str) (h : 32 ∉ q) : splitS (q ++ 32 :: r) = q :: splitS r := by rw [splitS_append, splitS_no q h]; rfl
theorem splitS_len (s : Str) : (splitS s).length = s.count 32 + 1 := by
  induction s with
  | nil => rfl
  | cons c t ih =>
    rw [splitS]
    split
    · rename_i h; subst h; rw [List.length_cons, ih, List.count_cons_self]
    · rename_i h
      rw [List.count_cons_of_ne (fun e => h (by simpa using e))]
      cases h2 : splitS t with
      | nil => exact absurd h2 (splitS_ne t)
      | cons a r => rw [h2] at ih; exact ih
theorem splitS_mem : ∀ (s : Str), ∀ x ∈ splitS s, 32 ∉ x ∧ x.length ≤ s.length
  | [], x, h => by simp [splitS] at h; subst h; simp
  | c :: t, x, h => by
    rw [splitS] at h
    split at h
    · rcases List.mem_cons.1 h with rfl | h
      · simp
      · have := splitS_mem t x h
        exact ⟨this.1, by rw [List.length_cons]; omega⟩
    · rename_i hc
      cases h2 : splitS t with
      | nil => exact absurd h2 (splitS_ne t)
      | cons a r =>
        rw [h2] at h
        rcases List.mem_cons.1 h with rfl | h
        · have := splitS_mem t a (by rw [h2]; exact .head _)
          refine ⟨?_, by simp only [List.length_cons]; omega⟩
          simp only [List.mem_cons, not_or]
          exact ⟨fun e => hc e.symm, this.1⟩
        · have := splitS_mem t x (by rw [h2]; exact .tail _ h)
          exact ⟨this.1, by rw [List.length_cons]; omega⟩

inductive Q where
  | node (kind : Int) (text : Str) (num : Int) (parts : List Q)
namespace Q
def kind : Q → Int | .node k _ _ _ => k
def text : Q → Str | .node _ t _ _ => t
def num : Q → Int | .node _ _ n _ => n
def parts : Q → List Q | .node _ _ _ l => l
@[simp] theorem kind_node (k : Int) (t : Str) (n : Int) (l : List Q) : (Q.node k t n l).kind = k := rfl
@[simp] theorem text_node (k : Int) (t : Str) (n : Int) (l : List Q) : (Q.node k t n l).text = t := rfl
@[simp] theorem num_node (k : Int) (t : Str) (n : Int) (l : List Q) : (Q.node k t n l).num = n := rfl
@[simp] theorem parts_node (k : Int) (t : Str) (n : Int) (l : List Q) : (Q.node k t n l).parts = l := rfl
/-- the greatest of some numbers -/
def top : List Nat → Nat
  | [] => 0
  | a :: l => max a (top l)
theorem top_le {l : List Nat} {n : Nat} : top l ≤ n ↔ ∀ a ∈ l, a ≤ n := by
  induction l with
  | nil => simp [top]
  | cons a l ih =>
    rw [top]
    constructor
    · intro h b hb
      rcases List.mem_cons.1 hb with rfl | hb
      · omega
      · exact ih.1 (by omega) b hb
    · intro h
      have h1 := h a (.head _)
      have h2 := ih.2 fun b hb => h b (.tail _ hb)
      omega
/-- the levels, f at most -/
def lev : Nat → Q → Nat
  | 0, _ => 0
  | f + 1, q => top (q.parts.map (lev f)) + 1
/-- the nodes in order, of f levels -/
def pre : Nat → Q → List Q
  | 0, _ => []
  | f + 1, q => q :: q.parts.flatMap (pre f)
/-- f levels are enough -/
def Fits : Nat → Q → Prop
  | 0, _ => False
  | f + 1, q => ∀ p ∈ q.parts, Fits f p
theorem lev_fits : ∀ (f : Nat) (q : Q), lev (f + 1) q ≤ f ↔ Fits f q
  | 0, q => by simp [lev, Fits]
  | f + 1, q => by
    rw [lev, Fits, Nat.add_le_add_iff_right, top_le]
    simp only [List.mem_map, forall_exists_index, and_imp, forall_apply_eq_imp_iff₂]
    exact ⟨fun h p hp => (lev_fits f p).1 (h p hp), fun h p hp => (lev_fits f p).2 (h p hp)⟩
theorem Fits.succ : ∀ {f : Nat} {q : Q}, Fits f q → Fits (f + 1) q
  | 0, q, h => h.elim
  | f + 1, q, h => fun p hp => Fits.succ (h p hp)
theorem flatMap_same {α β : Type} {l : List α} {f g : α → List β} (h : ∀ a ∈ l, f a = g a) : l.flatMap f = l.flatMap g := by
  induction l with
  | nil => rfl
  | cons a l ih => rw [List.flatMap_cons, List.flatMap_cons, h a (.head _), ih fun b hb => h b (.tail _ hb)]
theorem pre_fits : ∀ {f : Nat} {q : Q}, Fits f q → pre (f + 1) q = pre f q
  | 0, q, h => h.elim
  | f + 1, q, h => by
    rw [pre, pre, flatMap_same fun p hp => pre_fits (h p hp)]
theorem pre_mem_fits : ∀ {f : Nat} {q : Q}, Fits f q → ∀ p ∈ pre f q, Fits f p
  | 0, q, h, p, hp => by cases hp
  | f + 1, q, h, p, hp => by
    rw [pre] at hp
    rcases List.mem_cons.1 hp with rfl | hp
    · exact h
    · obtain ⟨r, hr, hp⟩ := List.mem_flatMap.1 hp
      exact (pre_mem_fits (h r hr) p hp).succ
/-- the parts of a node are fewer than the nodes -/
theorem pre_parts : ∀ {f : Nat} {q : Q}, Fits f q → ∀ p ∈ pre f q, p.parts.length < (pre f q).length
  | 0, q, h, p, hp => by cases hp
  | f + 1, q, h, p, hp => by
    have hle : ∀ l : List Q, (∀ r ∈ l, Fits f r) → l.length ≤ (l.flatMap (pre f)).length := by
      intro l
      induction l with
      | nil => intro _; exact Nat.le_refl _
      | cons r l ih =>
        intro hl
        have h1 := ih fun x hx => hl x (.tail _ hx)
        have h2 : 1 ≤ (pre f r).length := by
          match f, hl r (.head _) with
          | f + 1, _ => rw [pre, List.length_cons]; omega
        rw [List.flatMap_cons, List.length_append, List.length_cons]
        omega
    rw [pre] at hp ⊢
    rcases List.mem_cons.1 hp with rfl | hp
    · have := hle _ h
      rw [List.length_cons]; omega
    · obtain ⟨r, hr, hp⟩ := List.mem_flatMap.1 hp
      have h1 := pre_parts (h r hr) p hp
      have h2 : (pre f r).length ≤ (q.parts.flatMap (pre f)).length := by
        obtain ⟨s, t, e⟩ := List.append_of_mem hr
        rw [e, List.flatMap_append, List.flatMap_cons, List.length_append, List.length_append]
        omega
      rw [List.length_cons]; omega
/-- a word in lower case -/
def wordOk (s : Str) : Bool := decide (s.length ≤ 8000) && (Sm.words s == [s])
/-- what a kind permits: the least number of parts, the greatest one, the words -/
def least (k : Int) : Int := if k = 6 ∨ k = 7 then 2 else if k = 8 then 1 else 0
def most (k : Int) : Int := if k = 6 ∨ k = 7 then 60 else if k = 8 then 1 else 0
def wants (k : Int) : Int := if k = 2 ∨ k = 3 then 1 else if k = 4 then -1 else if k = 5 then 2 else 0
/-- the code of the error of a node -/
def errOf (q : Q) : Int :=
  if (decide (q.kind < 1) || decide (8 < q.kind)) = true then 4
  else if (q.parts.length : Int) < least q.kind ∨ most q.kind < (q.parts.length : Int) ∨ (q.kind ≠ 5 ∧ q.num ≠ 0) ∨ (wants q.kind = 0 ∧ q.text ≠ []) then 5
  else if q.kind = 5 ∧ (q.num < 1 ∨ 50 < q.num) then 3
  else if wants q.kind ≠ 0 ∧ ((splitS q.text).all wordOk = false ∨ (0 < wants q.kind ∧ ((splitS q.text).length : Int) ≠ wants q.kind)) then 10
  else 0
/-- the first error of some nodes -/
def errGo : List Q → Int → Int × Int
  | [], _ => (0, 0)
  | q :: l, i => if errOf q = 0 then errGo l (i + 1) else (errOf q, i)
/-- the fault of a query -/
def fault (q : Q) : Int × Int :=
  if 8 < lev 9 q then (2, -3) else if 60 < (pre 9 q).length then (2, -2) else errGo (pre 9 q) 0
theorem errGo_append (a b : List Q) (i : Int) : errGo (a ++ b) i = if (errGo a i).1 = 0 then errGo b (i + a.length) else errGo a i := by
  induction a generalizing i with
  | nil => simp [errGo]
  | cons q a ih =>
    rw [List.cons_append, errGo, errGo]
    by_cases h : errOf q = 0
    · rw [if_pos h, if_pos h, ih, List.length_cons]
      have : i + 1 + (a.length : Int) = i + ((a.length + 1 : Nat) : Int) := by omega
      rw [this]
    · rw [if_neg h, if_neg h, if_neg h]
theorem errGo_zero {l : List Q} {i : Int} : (errGo l i).1 = 0 ↔ ∀ q ∈ l, errOf q = 0 := by
  induction l generalizing i with
  | nil => simp [errGo]
  | cons q l ih =>
    rw [errGo]
    by_cases h : errOf q = 0
    · rw [if_pos h, ih]; simp [h]
    · rw [if_neg h]; simp [h]
theorem errGo_zero2 {l : List Q} {i : Int} (h : (errGo l i).1 = 0) : errGo l i = (0, 0) := by
  induction l generalizing i with
  | nil => rfl
  | cons q l ih =>
    rw [errGo] at h ⊢
    by_cases e : errOf q = 0
    · rw [if_pos e] at h ⊢; exact ih h
    · rw [if_neg e] at h; exact absurd h e
/-- what a valid query is like -/
theorem fault_zero {q : Q} : (fault q).1 = 0 ↔ Fits 8 q ∧ (pre 8 q).length ≤ 60 ∧ ∀ p ∈ pre 8 q, errOf p = 0 := by
  unfold fault
  have h89 : lev 9 q ≤ 8 ↔ Fits 8 q := lev_fits 8 q
  by_cases h : 8 < lev 9 q
  · rw [if_pos h]
    constructor
    · intro e; exact absurd e (by decide)
    · rintro ⟨e, _⟩; have := h89.2 e; omega
  · have hf := (show lev 9 q ≤ 8 ↔ Fits 8 q from lev_fits 8 q).1 (by omega)
    rw [if_neg h, pre_fits hf]
    by_cases h2 : 60 < (pre 8 q).length
    · rw [if_pos h2]
      constructor
      · intro e; exact absurd e (by decide)
      · rintro ⟨_, e, _⟩; omega
    · rw [if_neg h2, errGo_zero]
      exact ⟨fun e => ⟨hf, by omega, e⟩, fun e => e.2.2⟩
theorem fault_zero2 {q : Q} (h : (fault q).1 = 0) : fault q = (0, 0) := by
  unfold fault at h ⊢
  split at h
  · exact absurd h (by decide)
  · split at h
    · exact absurd h (by decide)
    · rename_i h1 h2
      rw [if_neg h1, if_neg h2]
      exact errGo_zero2 h
end Q
end Go.Proofs.YtiohhajkegpebaaGreatDoor
namespace Go.Proofs.YtiohhajkegpebaaGreatDoor
open Go.RowKit
set_option linter.unusedVariables false
structure QRd where
  rd : (Nat → Prop) → World → List Value → Q → Prop
  len : ∀ {M : Nat → Prop} {w : World} {cs : List Value} {a : Q}, rd M w cs a → cs.length = 4
  one : ∀ {M : Nat → Prop} {w : World} {cs : List Value} {a : Q}, rd M w cs a → ∀ u ∈ cs, u.oneCell' = true
  keep : ∀ {M : Nat → Prop} {w w' : World} {cs : List Value} {a : Q}, rd M w cs a → (∀ b, b < w.heap.size → ¬ M b → w'.heap[b]? = w.heap[b]?) → w.heap.size ≤ w'.heap.size → rd M w' cs a
  sub : ∀ {M M' : Nat → Prop} {w : World} {cs : List Value} {a : Q}, rd M w cs a → (∀ b, b < w.heap.size → M' b → M b) → rd M' w cs a
def QRd.codec (c : QRd) : Codec Q := ⟨4, by omega, c.rd, c.len, c.one, c.keep, c.sub⟩
def qStep (c : QRd) : QRd where
  rd M w cs q := ∃ v, cs = [.int .i64 q.kind, .string (bs q.text), .int .i64 q.num, v] ∧ (-9223372036854775808 ≤ q.kind ∧ q.kind ≤ 9223372036854775807) ∧ q.text.length ≤ maxLen ∧ (-9223372036854775808 ≤ q.num ∧ q.num ≤ 9223372036854775807) ∧ SlR c.codec M w v q.parts
  len h := by obtain ⟨v, rfl, _⟩ := h; rfl
  one h u hu := by
    obtain ⟨v, rfl, _, _, _, hv⟩ := h
    obtain ⟨A, c, rfl, _⟩ := hv.form
    simp only [List.mem_cons, List.not_mem_nil, or_false] at hu
    rcases hu with rfl | rfl | rfl | rfl <;> rfl
  keep h hk hs := by
    obtain ⟨v, e, h1, h2, h3, hv⟩ := h
    exact ⟨v, e, h1, h2, h3, hv.keep hk hs⟩
  sub h hm := by
    obtain ⟨v, e, h1, h2, h3, hv⟩ := h
    exact ⟨v, e, h1, h2, h3, hv.sub hm⟩
def qc : Nat → QRd
  | 0 => ⟨fun _ _ _ _ => False, fun h => h.elim, fun h => h.elim, fun h => h.elim, fun h => h.elim⟩
  | f + 1 => qStep (qc f)
/-- a query of f levels at most -/
def qF (f : Nat) : Codec Q := (qc f).codec
theorem qF_n (f : Nat) : (qF f).n = 4 := rfl
theorem Els.weaken {α : Type} {C D : Codec α} {M : Nat → Prop} {w : World} {xs : List Value} {l : List α} (hn : C.n = D.n) (h : Els C M w xs l) (hw : ∀ cs, ∀ a ∈ l, C.rd M w cs a → D.rd M w cs a) : Els D M w xs l := by
  refine ⟨by rw [h.1, hn], fun i hi => ?_⟩
  have := hw _ _ (List.getElem_mem hi) (h.2 i hi)
  rwa [hn] at this
theorem SlR.weaken {α : Type} {C D : Codec α} {M : Nat → Prop} {w : World} {v : Value} {l : List α} (hn : C.n = D.n) (h : SlR C M w v l) (hw : ∀ cs, ∀ a ∈ l, C.rd M w cs a → D.rd M w cs a) : SlR D M w v l := by
  obtain ⟨A, n, c, xs, rfl, h1, h2, h3, h4, h5⟩ := h
  exact ⟨A, n, c, xs, rfl, h1, h2, h3, h4.weaken hn hw, h5⟩
theorem qF_up : ∀ {f : Nat} {M : Nat → Prop} {w : World} {cs : List Value} {q : Q}, (qF f).rd M w cs q → (qF (f + 1)).rd M w cs q
  | 0, _, _, _, _, h => h.elim
  | f + 1, _, _, _, _, ⟨v, e, h1, h2, h3, hv⟩ => ⟨v, e, h1, h2, h3, SlR.weaken (C := qF f) (D := qF (f + 1)) rfl hv fun cs a _ h => qF_up h⟩
theorem qF_mono {f g : Nat} (hfg : f ≤ g) {M : Nat → Prop} {w : World} {cs : List Value} {q : Q} (h : (qF f).rd M w cs q) : (qF g).rd M w cs q := by
  induction hfg with
  | refl => exact h
  | step _ ih => exact qF_up ih
theorem SlR.qMono {f g : Nat} (hfg : f ≤ g) {M : Nat → Prop} {w : World} {v : Value} {l : List Q} (h : SlR (qF f) M w v l) : SlR (qF g) M w v l :=
  SlR.weaken (C := qF f) (D := qF g) rfl h fun _ _ _ h => qF_mono hfg h
/-- a node's value -/
def QAt (f : Nat) (M : Nat → Prop) (w : World) (v : Value) (q : Q) : Prop :=
  ∃ A c, v = .agg #[.int .i64 q.kind, .string (bs q.text), .int .i64 q.num, .slice A q.parts.length c] ∧ (-9223372036854775808 ≤ q.kind ∧ q.kind ≤ 9223372036854775807) ∧ q.text.length ≤ maxLen ∧ (-9223372036854775808 ≤ q.num ∧ q.num ≤ 9223372036854775807) ∧ SlR (qF f) M w (.slice A q.parts.length c) q.parts
theorem QAt.ext {f : Nat} {M : Nat → Prop} {w w' : World} {v : Value} {q : Q} (h : QAt f M w v q) (hb : Below w.heap.size w w') : QAt f M w' v q := by
  obtain ⟨A, c, e, h1, h2, h3, hv⟩ := h
  exact ⟨A, c, e, h1, h2, h3, hv.ext hb⟩
theorem QAt.mono {f g : Nat} (hfg : f ≤ g) {M : Nat → Prop} {w : World} {v : Value} {q : Q} (h : QAt f M w v q) : QAt g M w v q := by
  obtain ⟨A, c, e, h1, h2, h3, hv⟩ := h
  exact ⟨A, c, e, h1, h2, h3, hv.qMono hfg⟩
theorem QAt.of_rd {f : Nat} {M : Nat → Prop} {w : World} {a : Array Value} {q : Q} (h : (qF f).rd M w (Value.agg a).cells.toList q) : ∃ g, f = g + 1 ∧ QAt g M w (.agg a) q := by
  cases f with
  | zero => exact h.elim
  | succ g =>
    obtain ⟨v, e, h1, h2, h3, hv⟩ := h
    obtain ⟨A, c, rfl, _⟩ := hv.form
    have h4 : a.toList = _ := e
    refine ⟨g, rfl, A, c, ?_, h1, h2, h3, hv⟩
    rw [← Array.toArray_toList (xs := a), h4]
theorem QAt.rd {f : Nat} {M : Nat → Prop} {w : World} {v : Value} {q : Q} (h : QAt f M w v q) : (qF (f + 1)).rd M w v.cells.toList q := by
  obtain ⟨A, c, rfl, h1, h2, h3, hv⟩ := h
  exact ⟨_, rfl, h1, h2, h3, hv⟩
/-- part k of a row -/
theorem SlR.qAt {f : Nat} {M : Nat → Prop} {w : World} {A : Option Addr} {n c : Nat} {l : List Q} (h : SlR (qF f) M w (.slice A n c) l) {k : Nat} (hk : k < l.length) :
    ∃ b off g A2 c2, A = some ⟨b, off, none⟩ ∧ f = g + 1 ∧ ¬ M b ∧ b < w.heap.size ∧ w.cell? ⟨b, off + k * 4, none⟩ = some (.int .i64 l[k].kind) ∧ w.cell? ⟨b, off + k * 4 + 1, none⟩ = some (.string (bs l[k].text)) ∧
      w.cell? ⟨b, off + k * 4 + 2, none⟩ = some (.int .i64 l[k].num) ∧ w.cell? ⟨b, off + k * 4 + 3, none⟩ = some (.slice A2 l[k].parts.length c2) ∧
      QAt g M w (.agg #[.int .i64 l[k].kind, .string (bs l[k].text), .int .i64 l[k].num, .slice A2 l[k].parts.length c2]) l[k] := by
  obtain ⟨b, off, cs, rfl, hM, hb, hr, hc⟩ := h.at_ hk
  cases f with
  | zero => exact hr.elim
  | succ g =>
    obtain ⟨v, rfl, h1, h2, h3, hv⟩ := hr
    obtain ⟨A2, c2, rfl, _⟩ := hv.form
    exact ⟨b, off, g, A2, c2, rfl, rfl, hM, hb, hc 0 _ rfl, hc 1 _ rfl, hc 2 _ rfl, hc 3 _ rfl, A2, c2, rfl, h1, h2, h3, hv⟩
namespace Q
/-- a property of queries, by their parts -/
theorem ind {p : Q → Prop} (h : ∀ k t n l, (∀ q ∈ l, p q) → p (.node k t n l)) : ∀ q, p q
  | .node k t n l => h k t n l (go l)
where go : ∀ l : List Q, ∀ q ∈ l, p q
  | [], _, hq => by cases hq
  | a :: l, q, hq => by
    rcases List.mem_cons.1 hq with e | e
    · rw [e]; exact ind h a
    · exact go l q e
mutual
/-- how much a query holds -/
def bulk : Q → Nat
  | .node _ t _ l => t.length + 4 + bulks l
def bulks : List Q → Nat
  | [] => 0
  | a :: l => bulk a + bulks l
end
theorem bulks_mem {l : List Q} {q : Q} (h : q ∈ l) : q.bulk ≤ bulks l := by
  induction l with
  | nil => cases h
  | cons a l ih =>
    rw [bulks]
    rcases List.mem_cons.1 h with e | e
    · rw [e]; omega
    · have := ih e; omega
theorem bulk_eq (q : Q) : q.bulk = q.text.length + 4 + bulks q.parts := by
  cases q; rw [bulk]; rfl
theorem bulks_len (l : List Q) : 4 * l.length ≤ bulks l := by
  induction l with
  | nil => simp [bulks]
  | cons a l ih => rw [bulks, bulk_eq, List.length_cons]; omega
/-- as many nodes as levels allow weigh no more than the whole -/
theorem pre_bulk : ∀ (f : Nat) (q : Q), (pre f q).length * 4 ≤ q.bulk
  | 0, q => by simp [pre]
  | f + 1, q => by
    rw [pre, List.length_cons, bulk_eq]
    have key : ∀ l : List Q, (l.flatMap (pre f)).length * 4 ≤ bulks l := by
      intro l
      induction l with
      | nil => simp
      | cons a l ih =>
        rw [List.flatMap_cons, List.length_append, bulks]
        have := pre_bulk f a
        omega
    have := key q.parts
    omega
theorem flat_bulk (f : Nat) (l : List Q) : (l.flatMap (pre f)).length * 4 ≤ bulks l := by
  induction l with
  | nil => simp
  | cons a l ih =>
    rw [List.flatMap_cons, List.length_append, bulks]
    have := pre_bulk f a
    omega
theorem take_bulk : ∀ {l : List Q} {m : Nat} (h : m < l.length), bulks (l.take m) + l[m].bulk ≤ bulks l
  | a :: l, 0, h => by simp [bulks]
  | a :: l, m + 1, h => by
    have := take_bulk (l := l) (m := m) (by simpa using h)
    rw [List.take_succ_cons, bulks, bulks, List.getElem_cons_succ]
    omega
theorem lev_le : ∀ (f : Nat) (q : Q), lev f q ≤ f
  | 0, q => by simp [lev]
  | f + 1, q => by
    rw [lev]
    have : top (q.parts.map (lev f)) ≤ f := top_le.2 fun a ha => by
      obtain ⟨p, _, rfl⟩ := List.mem_map.1 ha
      exact lev_le f p
    omega
theorem top_lev_le (f : Nat) (l : List Q) : top (l.map (lev f)) ≤ f := top_le.2 fun a ha => by
  obtain ⟨p, _, rfl⟩ := List.mem_map.1 ha
  exact lev_le f p
theorem pre_mem_bulk : ∀ (f : Nat) (q : Q), ∀ p ∈ pre f q, p.bulk ≤ q.bulk
  | 0, q, p, h => by cases h
  | f + 1, q, p, h => by
    rw [pre] at h
    rcases List.mem_cons.1 h with e | e
    · rw [e]; exact Nat.le_refl _
    · obtain ⟨r, hr, hp⟩ := List.mem_flatMap.1 e
      have h1 := pre_mem_bulk f r p hp
      have h2 := bulks_mem hr
      rw [bulk_eq q]; omega
end Q
end Go.Proofs.YtiohhajkegpebaaGreatDoor
namespace Go.Proofs.YtiohhajkegpebaaGreatDoor
open Go.RowKit
set_option linter.unusedVariables false
theorem rising_false {l : List Int} {low : Int} {k : Nat} (hk : k < l.length) (h : Ix.okAt l low k = false) : Ix.rising l low = false := by
  unfold Ix.rising
  rw [List.all_eq_false]
  exact ⟨k, List.mem_range.2 hk, by rw [h]; simp⟩
theorem rising_true {l : List Int} {low : Int} (h : ∀ k, k < l.length → Ix.okAt l low k = true) : Ix.rising l low = true := by
  unfold Ix.rising
  rw [List.all_eq_true]
  exact fun k hk => h k (List.mem_range.1 hk)
set_option maxHeartbeats 1000000 in
theorem rising_ok (M : Nat → Prop) (v : Value) (l : List Int) (low : Int) (w : World) (h : SlR intC M w v l) : Calls Tryz.prog 45 #[v, .int .i64 low] w fun e w' => e = .returned (.bool (Ix.rising l low)) ∧ w = w' := by
  obtain ⟨A, c, rfl, hlc, hcm⟩ := h.form
  unfold maxLen at hcm
  go_enter Tryz.func45, Tryz.ntmps45
  go_wp2
  go_loop [9] (fun i => ∃ k : Nat, k ≤ l.length ∧ i = .int .i64 (k : Int) ∧ Hid (∀ j, j < k → Ix.okAt l low j = true)) (fun i => l.length - (intOf i).toNat)
  case atStart => exact ⟨0, Nat.zero_le _, rfl, Lib.hid fun j hj => absurd hj (by omega)⟩
  case round =>
    obtain ⟨k, hk, rfl, hok⟩ := hrel
    by_cases hlt : k < l.length
    · obtain ⟨b, off, rfl, _, _, p0, _, _⟩ := h.intAt hlt
      have hki : Ix.okAt l low k = ((decide (low ≤ l[k]) && decide (l[k] ≤ 1000000)) && (decide (k = 0) || decide (l.getD (k - 1) 0 < l[k]))) := by unfold Ix.okAt; rw [Ix.getD_get hlt]
      have hfalse := fun hf => rising_false (l := l) (low := low) hlt hf
      have hnext : Ix.okAt l low k = true → Hid (∀ j, j < k + 1 → Ix.okAt l low j = true) := fun ht => Lib.hid fun j hj => by
        by_cases e : j = k
        · rw [e]; exact ht
        · exact hok.out j (by omega)
      have hil : (k : Int) < (l.length : Int) := by omega
      have hi0 : (0 : Int) ≤ (k : Int) := by omega
      have hiw : IntKind.i64.wrap (k : Int) = (k : Int) := IntWalk.i64_in _ (by omega)
      by_cases hk0 : k = 0
      · subst hk0
        rw [decide_eq_true rfl, Bool.true_or, Bool.and_true] at hki
        obtain ⟨n, hn⟩ : ∃ n, l[0] = n := ⟨_, rfl⟩
        rw [hn] at hki p0
        rw [Nat.add_zero] at p0
        have Hki := Lib.hid hki; have Hf := Lib.hid hfalse; have Hn := Lib.hid hnext
        clear hki hfalse hnext hn
        by_cases h1 : n < low
        · go_wp2
          go_ret
          exact ⟨ret_bool (Hf.out (by rw [Hki.out, decide_eq_false (by omega)]; rfl)).symm, rfl⟩
        · by_cases h2 : 1000000 < n
          · go_wp2
            go_ret
            exact ⟨ret_bool (Hf.out (by rw [Hki.out, decide_eq_false (show ¬ n ≤ 1000000 by omega), Bool.and_false])).symm, rfl⟩
          · have hn1 := Hn.out (by rw [Hki.out, decide_eq_true (by omega), decide_eq_true (by omega)]; rfl)
            clear hok
            go_wp2
            go_round
            case rel => exact ⟨1, by omega, by go_num, hn1⟩
            case measure => simp [intOf]; omega
      · obtain ⟨b2, off2, hA, _, _, q0, _, _⟩ := h.intAt (k := k - 1) (by omega)
        injection hA with hA
        injection hA with hA1 hA2
        subst hA1 hA2
        rw [decide_eq_false hk0, Bool.false_or, Ix.getD_get (show k - 1 < l.length by omega)] at hki
        obtain ⟨n, hn⟩ : ∃ n, l[k] = n := ⟨_, rfl⟩
        obtain ⟨m, hm⟩ : ∃ m, l[k - 1]'(by omega) = m := ⟨_, rfl⟩
        rw [hn, hm] at hki
        rw [hn] at p0
        rw [hm] at q0
        obtain ⟨k', rfl⟩ : ∃ k', k = k' + 1 := ⟨k - 1, by omega⟩
        rw [Nat.add_sub_cancel] at q0
        have Hki := Lib.hid hki; have Hf := Lib.hid hfalse; have Hn := Lib.hid hnext
        have hk1 : (0 : Int) < ((k' + 1 : Nat) : Int) := by omega
        have hw1 : ((k' + 1 : Nat) : Int) - 1 = (k' : Int) := by omega
        have hw2 : IntKind.i64.wrap (k' : Int) = (k' : Int) := IntWalk.i64_in _ (by omega)
        have hj1 : (k' : Int) < (l.length : Int) := by omega
        have hj0 : (0 : Int) ≤ (k' : Int) := by omega
        clear hki hfalse hnext hn hm
        by_cases h1 : n < low
        · go_wp2
          go_ret
          exact ⟨ret_bool (Hf.out (by rw [Hki.out, decide_eq_false (by omega)]; rfl)).symm, rfl⟩
        · by_cases h2 : 1000000 < n
          · go_wp2
            go_ret
            exact ⟨ret_bool (Hf.out (by rw [Hki.out, decide_eq_false (show ¬ n ≤ 1000000 by omega), Bool.and_false]; rfl)).symm, rfl⟩
          · by_cases h3 : n ≤ m
            · go_wp2
              go_ret
              exact ⟨ret_bool (Hf.out (by rw [Hki.out, decide_eq_false (show ¬ m < n by omega), Bool.and_false])).symm, rfl⟩
            · have hn1 := Hn.out (by rw [Hki.out, decide_eq_true (by omega), decide_eq_true (by omega), decide_eq_true (by omega)]; rfl)
              clear hok
              go_wp2
              go_round
              case rel => exact ⟨k' + 2, by omega, by go_num, hn1⟩
              case measure => simp [intOf]; omega
    · obtain rfl : k = l.length := by omega
      have ht := rising_true (l := l) (low := low) hok.out
      have Ht := Lib.hid ht
      clear ht hok
      go_wp2
      go_ret
      exact ⟨ret_bool Ht.out.symm, rfl⟩
theorem bsearchI_ok (M : Nat → Prop) (v : Value) (l : List Int) (x : Int) (w : World) (h : SlR intC M w v l) (hs : l.Pairwise (· < ·)) (hln : l.length ≤ 1000000) : Calls Tryz.prog 96 #[v, .int .i64 x] w fun e w' =>
    e = .returned (.tuple #[.int .i64 (l.countP (· < x) : Nat), .bool (l.contains x)]) ∧ Below w.heap.size w w' := by
  obtain ⟨A, c, rfl, hlc, hcm⟩ := h.form
  have hn := h.len_le
  by_cases h0 : l.length = 0
  · have : l = [] := List.eq_nil_of_length_eq_zero h0
    subst this
    refine (Tryz.slices_BinarySearch_int_empty A c x w).mono ?_
    rintro e w' ⟨rfl, rfl⟩
    exact ⟨rfl, Below.refl _ _⟩
  · obtain ⟨b, off, rfl, _⟩ := h.intAt (k := 0) (by omega)
    have hb : l.length < 4611686018427387904 := by omega
    refine (Tryz.slices_BinarySearch_int b off l.length c l x w (Nat.le_refl _) hb (fun j hj => ?_) ?_).mono ?_
    · obtain ⟨b2, off2, hA, _, _, q0, _, _⟩ := h.intAt hj
      injection hA with hA
      injection hA with hA1 hA2
      subst hA1 hA2
      rw [Ix.getD_get hj]
      exact q0
    · rw [List.take_length]
      exact hs.imp fun h => by omega
    · rintro e w' ⟨rfl, q, rfl⟩
      rw [List.take_length]
      exact ⟨rfl, below_drewN' _ _ _⟩
end Go.Proofs.YtiohhajkegpebaaGreatDoor
namespace Go.Proofs.YtiohhajkegpebaaGreatDoor
open Go.RowKit
set_option linter.unusedVariables false
theorem clonePost_ok (M : Nat → Prop) (v : Value) (l : List _) (w : World) (h : SlR rpC M w v l) (hn : l.length ≤ 1000001) : Calls Tryz.prog 84 #[v] w fun e w' =>
    ∃ v', e = .returned v' ∧ Own rpC M w' w.heap.size 56 v' l ∧ Below w.heap.size w w' := by
  obtain ⟨A, c, rfl, _, _⟩ := h.form
  have hnil := fun w => Lib.run_eql_slice_nil (P := Tryz.prog) w 52 56 A l.length c 0 0 Tryz.underlying52
  rcases A with _ | ad
  · go_enter Tryz.func84, Tryz.ntmps84
    go_wp2
    go_ret
    obtain rfl : l = [] := List.eq_nil_of_length_eq_zero (Nat.eq_zero_of_not_pos fun h0 => by obtain ⟨_, _, _, h', _⟩ := h.at_ h0; cases h')
    exact ⟨_, rfl, Own.nil _ _ _ _ _, Below.refl _ _⟩
  · go_enter Tryz.func84, Tryz.ntmps84
    go_wp2_with (at_builtin; refine wpList_append_Own rpC (M := M) (B := w.heap.size) (l := []) (l' := l) TPosts rfl (.tmp 5) (.tmp 6) rfl rfl (Own.built (cs := []) _ (Els.nil _ _ _) (Nat.le_refl _) (Nat.zero_le _)) rfl ?_ ?_ ?_ ?_ ?_)
    case refine_1 =>
      refine (h.sub fun b hb hor => ?_).ext ((Below.refl _ _).alloc (Nat.le_refl _) _)
      rcases hor with h' | h'
      · exact h'
      · have h2 : w.heap.size = b := by simpa [Act.eval, Value.ownBlock] using h'
        omega
    case refine_2 => simp [maxLen]; omega
    case refine_3 => simp; omega
    case refine_4 => simp
    case refine_5 =>
      intro A' c' L w' hL hown _ hg hor
      obtain rfl : L = l := by simpa using hL.out
      go_wp2
      go_ret
      refine ⟨_, rfl, hown, ((Below.refl _ _).alloc (Nat.le_refl _) _).grown hg (by simp) fun k hk => ?_⟩
      simp [Value.ownBlock] at hk; omega
theorem cloneInt_ok (M : Nat → Prop) (v : Value) (l : List _) (w : World) (h : SlR intC M w v l) (hn : l.length ≤ 1000001) : Calls Tryz.prog 85 #[v] w fun e w' =>
    ∃ v', e = .returned v' ∧ Own intC M w' w.heap.size 3 v' l ∧ Below w.heap.size w w' := by
  obtain ⟨A, c, rfl, _, _⟩ := h.form
  have hnil := fun w => Lib.run_eql_slice_nil (P := Tryz.prog) w 29 3 A l.length c 0 0 Tryz.underlying29
  rcases A with _ | ad
  · go_enter Tryz.func85, Tryz.ntmps85
    go_wp2
    go_ret
    obtain rfl : l = [] := List.eq_nil_of_length_eq_zero (Nat.eq_zero_of_not_pos fun h0 => by obtain ⟨_, _, _, h', _⟩ := h.at_ h0; cases h')
    exact ⟨_, rfl, Own.nil _ _ _ _ _, Below.refl _ _⟩
  · go_enter Tryz.func85, Tryz.ntmps85
    go_wp2_with (at_builtin; refine wpList_append_Own intC (M := M) (B := w.heap.size) (l := []) (l' := l) TInts rfl (.tmp 5) (.tmp 6) rfl rfl (Own.built (cs := []) _ (Els.nil _ _ _) (Nat.le_refl _) (Nat.zero_le _)) rfl ?_ ?_ ?_ ?_ ?_)
    case refine_1 =>
      refine (h.sub fun b hb hor => ?_).ext ((Below.refl _ _).alloc (Nat.le_refl _) _)
      rcases hor with h' | h'
      · exact h'
      · have h2 : w.heap.size = b := by simpa [Act.eval, Value.ownBlock] using h'
        omega
    case refine_2 => simp [maxLen]; omega
    case refine_3 => simp; omega
    case refine_4 => simp
    case refine_5 =>
      intro A' c' L w' hL hown _ hg hor
      obtain rfl : L = l := by simpa using hL.out
      go_wp2
      go_ret
      refine ⟨_, rfl, hown, ((Below.refl _ _).alloc (Nat.le_refl _) _).grown hg (by simp) fun k hk => ?_⟩
      simp [Value.ownBlock] at hk; omega
end Go.Proofs.YtiohhajkegpebaaGreatDoor
namespace Go.Proofs.YtiohhajkegpebaaGreatDoor
open Go.RowKit
set_option linter.unusedVariables false
/-- one box, two boxes: under names -/
theorem box1 (w : World) (cs : Array Value) (t : TypeId) : ∃ W g, w.alloc (.cells cs t) = W ∧ w.heap.size = g ∧ W.heap.size = g + 1 ∧ Blk W g t cs ∧ Below w.heap.size w W := ⟨_, _, rfl, rfl, by simp, Blk.new w t _, (Below.refl _ _).alloc (Nat.le_refl _) _⟩
theorem box2 (w : World) (cs : Array Value) (t : TypeId) (ds : Array Value) (t' : TypeId) : ∃ W g h, (w.alloc (.cells cs t)).alloc (.cells ds t') = W ∧ w.heap.size = g ∧ g + 1 = h ∧ W.heap.size = h + 1 ∧ Blk W g t cs ∧ Blk W h t' ds ∧ Below w.heap.size w W := by
  refine ⟨_, _, _, rfl, rfl, rfl, by simp, (Blk.new w t cs).alloc _, ?_, ((Below.refl _ _).alloc (Nat.le_refl _) _).alloc (by simp) _⟩
  have := Blk.new (w.alloc (.cells cs t)) t' ds
  rw [World.size_alloc] at this
  exact this
theorem put2 {w : World} {g7 : Nat} {t' : TypeId} {u v : Value} (h7 : Blk w g7 t' #[u, v]) (c d : Value) {W : World} (hW : (w.setCell ⟨g7, 0, none⟩ c).setCell ⟨g7, 1, none⟩ d = W) : Blk W g7 t' #[c, d] ∧ ∀ b, b ≠ g7 → W.heap[b]? = w.heap[b]? := by
  subst hW
  exact ⟨(h7.set_ 0 c).set_ 1 d, fun b h2 => by rw [heap_set_ne _ _ _ h2, heap_set_ne _ _ _ h2]⟩
theorem below_put2 {w w1 W : World} {g7 : Nat} (hb : Below w.heap.size w w1) (h7 : w.heap.size ≤ g7) (c d : Value) (hW : (w1.setCell ⟨g7, 0, none⟩ c).setCell ⟨g7, 1, none⟩ d = W) : Below w.heap.size w W := by
  subst hW
  exact (hb.setCell (p := ⟨g7, 0, none⟩) h7 _).setCell (p := ⟨g7, 1, none⟩) h7 _
end Go.Proofs.YtiohhajkegpebaaGreatDoor
namespace Go.Proofs.YtiohhajkegpebaaGreatDoor
set_option linter.unusedVariables false
open Go.Lib
theorem split_piece : ∀ r : Str, ((32 : UInt8) ∉ r ∧ splitS r = [r] ∧ Lib.indexByte r 32 = -1) ∨ ∃ a t, r = a ++ 32 :: t ∧ (32 : UInt8) ∉ a ∧ splitS r = a :: splitS t ∧ Lib.indexByte r 32 = (a.length : Int)
  | [] => .inl ⟨by simp, rfl, rfl⟩
  | c :: r => by
    by_cases hc : c = 32
    · subst hc
      exact .inr ⟨[], r, rfl, by simp, by rw [splitS, if_pos rfl], by simp [Lib.indexByte]⟩
    · rcases split_piece r with ⟨h1, h2, h3⟩ | ⟨a, t, h1, h2, h3, h4⟩
      · refine .inl ⟨?_, ?_, ?_⟩
        · simp only [List.mem_cons, not_or]; exact ⟨fun e => hc e.symm, h1⟩
        · rw [splitS, if_neg hc, h2]
        · simp [Lib.indexByte, hc, h3]
      · refine .inr ⟨c :: a, t, by rw [h1]; rfl, ?_, ?_, ?_⟩
        · simp only [List.mem_cons, not_or]; exact ⟨fun e => hc e.symm, h2⟩
        · rw [splitS, if_neg hc, h3]
        · rw [Lib.indexByte, h4, if_neg (by simpa using hc), if_neg (by rw [beq_iff_eq]; omega), List.length_cons]
          omega
end Go.Proofs.YtiohhajkegpebaaGreatDoor

/-
  Contracts and plain facts, one after another: Queries in memory: a node's four cells, its parts a row of nodes; f: how deep the rows go. No program is named here; Queries as texts: what is printed, what is read; plain.
-/
import Derived.Test.YtihhgmpanfboaaaGreatDoorK2
import Derived.Test.YtihhgmpanfboaaaGreatDoorK3
import Derived.Test.YtihhgmpanfboaaaGreatDoorK4
namespace Go.Proofs.YtihhgmpanfboaaaGreatDoor
open Go.RowKit
set_option linter.unusedVariables false
structure QRd where
  rd : (Nat → Prop) → World → List Value → Q → Prop
  len : ∀ {M : Nat → Prop} {w : World} {cs : List Value} {a : Q}, rd M w cs a → cs.length = 4
  one : ∀ {M : Nat → Prop} {w : World} {cs : List Value} {a : Q}, rd M w cs a → ∀ u ∈ cs, u.oneCell' = true
  keep : ∀ {M : Nat → Prop} {w w' : World} {cs : List Value} {a : Q}, rd M w cs a → (∀ b, b < w.heap.size → ¬ M b → w'.heap[b]? = w.heap[b]?) → w.heap.size ≤ w'.heap.size → rd M w' cs a
  sub : ∀ {M M' : Nat → Prop} {w : World} {cs : List Value} {a : Q}, rd M w cs a → (∀ b, b < w.heap.size → M' b → M b) → rd M' w cs a
def QRd.codec (c : QRd) : Codec Q := ⟨4, by omega, c.rd, c.len, c.one, c.keep, c.sub⟩
def qStep (c : QRd) : QRd where
  rd M w cs q := ∃ v, cs = [.int .i64 q.kind, .string (bs q.text), .int .i64 q.num, v] ∧ (-9223372036854775808 ≤ q.kind ∧ q.kind ≤ 9223372036854775807) ∧ q.text.length ≤ maxLen ∧ (-9223372036854775808 ≤ q.num ∧ q.num ≤ 9223372036854775807) ∧ SlR c.codec M w v q.parts
  len h := by obtain ⟨v, rfl, _⟩ := h; rfl
  one h u hu := by
    obtain ⟨v, rfl, _, _, _, hv⟩ := h
    obtain ⟨A, c, rfl, _⟩ := hv.form
    simp only [List.mem_cons, List.not_mem_nil, or_false] at hu
    rcases hu with rfl | rfl | rfl | rfl <;> rfl
  keep h hk hs := by
    obtain ⟨v, e, h1, h2, h3, hv⟩ := h
    exact ⟨v, e, h1, h2, h3, hv.keep hk hs⟩
  sub h hm := by
    obtain ⟨v, e, h1, h2, h3, hv⟩ := h
    exact ⟨v, e, h1, h2, h3, hv.sub hm⟩
def qc : Nat → QRd
  | 0 => ⟨fun _ _ _ _ => False, fun h => h.elim, fun h => h.elim, fun h => h.elim, fun h => h.elim⟩
  | f + 1 => qStep (qc f)
/-- a query of f levels at most -/
def qF (f : Nat) : Codec Q := (qc f).codec
theorem qF_n (f : Nat) : (qF f).n = 4 := rfl
theorem Els.weaken {α : Type} {C D : Codec α} {M : Nat → Prop} {w : World} {xs : List Value} {l : List α} (hn : C.n = D.n) (h : Els C M w xs l) (hw : ∀ cs, ∀ a ∈ l, C.rd M w cs a → D.rd M w cs a) : Els D M w xs l := by
  refine ⟨by rw [h.1, hn], fun i hi => ?_⟩
  have := hw _ _ (List.getElem_mem hi) (h.2 i hi)
  rwa [hn] at this
theorem SlR.weaken {α : Type} {C D : Codec α} {M : Nat → Prop} {w : World} {v : Value} {l : List α} (hn : C.n = D.n) (h : SlR C M w v l) (hw : ∀ cs, ∀ a ∈ l, C.rd M w cs a → D.rd M w cs a) : SlR D M w v l := by
  obtain ⟨A, n, c, xs, rfl, h1, h2, h3, h4, h5⟩ := h
  exact ⟨A, n, c, xs, rfl, h1, h2, h3, h4.weaken hn hw, h5⟩
theorem qF_up : ∀ {f : Nat} {M : Nat → Prop} {w : World} {cs : List Value} {q : Q}, (qF f).rd M w cs q → (qF (f + 1)).rd M w cs q
  | 0, _, _, _, _, h => h.elim
  | f + 1, _, _, _, _, ⟨v, e, h1, h2, h3, hv⟩ => ⟨v, e, h1, h2, h3, SlR.weaken (C := qF f) (D := qF (f + 1)) rfl hv fun cs a _ h => qF_up h⟩
theorem qF_mono {f g : Nat} (hfg : f ≤ g) {M : Nat → Prop} {w : World} {cs : List Value} {q : Q} (h : (qF f).rd M w cs q) : (qF g).rd M w cs q := by
  induction hfg with
  | refl => exact h
  | step _ ih => exact qF_up ih
theorem SlR.qMono {f g : Nat} (hfg : f ≤ g) {M : Nat → Prop} {w : World} {v : Value} {l : List Q} (h : SlR (qF f) M w v l) : SlR (qF g) M w v l :=
  SlR.weaken (C := qF f) (D := qF g) rfl h fun _ _ _ h => qF_mono hfg h
/-- a node's value -/
def QAt (f : Nat) (M : Nat → Prop) (w : World) (v : Value) (q : Q) : Prop :=
  ∃ A c, v = .agg #[.int .i64 q.kind, .string (bs q.text), .int .i64 q.num, .slice A q.parts.length c] ∧ (-9223372036854775808 ≤ q.kind ∧ q.kind ≤ 9223372036854775807) ∧ q.text.length ≤ maxLen ∧ (-9223372036854775808 ≤ q.num ∧ q.num ≤ 9223372036854775807) ∧ SlR (qF f) M w (.slice A q.parts.length c) q.parts
theorem QAt.ext {f : Nat} {M : Nat → Prop} {w w' : World} {v : Value} {q : Q} (h : QAt f M w v q) (hb : Below w.heap.size w w') : QAt f M w' v q := by
  obtain ⟨A, c, e, h1, h2, h3, hv⟩ := h
  exact ⟨A, c, e, h1, h2, h3, hv.ext hb⟩
theorem QAt.mono {f g : Nat} (hfg : f ≤ g) {M : Nat → Prop} {w : World} {v : Value} {q : Q} (h : QAt f M w v q) : QAt g M w v q := by
  obtain ⟨A, c, e, h1, h2, h3, hv⟩ := h
  exact ⟨A, c, e, h1, h2, h3, hv.qMono hfg⟩
theorem QAt.of_rd {f : Nat} {M : Nat → Prop} {w : World} {a : Array Value} {q : Q} (h : (qF f).rd M w (Value.agg a).cells.toList q) : ∃ g, f = g + 1 ∧ QAt g M w (.agg a) q := by
  cases f with
  | zero => exact h.elim
  | succ g =>
    obtain ⟨v, e, h1, h2, h3, hv⟩ := h
    obtain ⟨A, c, rfl, _⟩ := hv.form
    have h4 : a.toList = _ := e
    refine ⟨g, rfl, A, c, ?_, h1, h2, h3, hv⟩
    rw [← Array.toArray_toList (xs := a), h4]
theorem QAt.rd {f : Nat} {M : Nat → Prop} {w : World} {v : Value} {q : Q} (h : QAt f M w v q) : (qF (f + 1)).rd M w v.cells.toList q := by
  obtain ⟨A, c, rfl, h1, h2, h3, hv⟩ := h
  exact ⟨_, rfl, h1, h2, h3, hv⟩
/-- part k of a row -/
theorem SlR.qAt {f : Nat} {M : Nat → Prop} {w : World} {A : Option Addr} {n c : Nat} {l : List Q} (h : SlR (qF f) M w (.slice A n c) l) {k : Nat} (hk : k < l.length) :
    ∃ b off g A2 c2, A = some ⟨b, off, none⟩ ∧ f = g + 1 ∧ ¬ M b ∧ b < w.heap.size ∧ w.cell? ⟨b, off + k * 4, none⟩ = some (.int .i64 l[k].kind) ∧ w.cell? ⟨b, off + k * 4 + 1, none⟩ = some (.string (bs l[k].text)) ∧
      w.cell? ⟨b, off + k * 4 + 2, none⟩ = some (.int .i64 l[k].num) ∧ w.cell? ⟨b, off + k * 4 + 3, none⟩ = some (.slice A2 l[k].parts.length c2) ∧
      QAt g M w (.agg #[.int .i64 l[k].kind, .string (bs l[k].text), .int .i64 l[k].num, .slice A2 l[k].parts.length c2]) l[k] := by
  obtain ⟨b, off, cs, rfl, hM, hb, hr, hc⟩ := h.at_ hk
  cases f with
  | zero => exact hr.elim
  | succ g =>
    obtain ⟨v, rfl, h1, h2, h3, hv⟩ := hr
    obtain ⟨A2, c2, rfl, _⟩ := hv.form
    exact ⟨b, off, g, A2, c2, rfl, rfl, hM, hb, hc 0 _ rfl, hc 1 _ rfl, hc 2 _ rfl, hc 3 _ rfl, A2, c2, rfl, h1, h2, h3, hv⟩
namespace Q
/-- a property of queries, by their parts -/
theorem ind {p : Q → Prop} (h : ∀ k t n l, (∀ q ∈ l, p q) → p (.node k t n l)) : ∀ q, p q
  | .node k t n l => h k t n l (go l)
where go : ∀ l : List Q, ∀ q ∈ l, p q
  | [], _, hq => by cases hq
  | a :: l, q, hq => by
    rcases List.mem_cons.1 hq with e | e
    · rw [e]; exact ind h a
    · exact go l q e
mutual
/-- how much a query holds -/
def bulk : Q → Nat
  | .node _ t _ l => t.length + 4 + bulks l
def bulks : List Q → Nat
  | [] => 0
  | a :: l => bulk a + bulks l
end
theorem bulks_mem {l : List Q} {q : Q} (h : q ∈ l) : q.bulk ≤ bulks l := by
  induction l with
  | nil => cases h
  | cons a l ih =>
    rw [bulks]
    rcases List.mem_cons.1 h with e | e
    · rw [e]; omega
    · have := ih e; omega
theorem bulk_eq (q : Q) : q.bulk = q.text.length + 4 + bulks q.parts := by
  cases q; rw [bulk]; rfl
theorem bulks_len (l : List Q) : 4 * l.length ≤ bulks l := by
  induction l with
  | nil => simp [bulks]
  | cons a l ih => rw [bulks, bulk_eq, List.length_cons]; omega
/-- as many nodes as levels allow weigh no more than the whole -/
theorem pre_bulk : ∀ (f : Nat) (q : Q), (pre f q).length * 4 ≤ q.bulk
  | 0, q => by simp [pre]
  | f + 1, q => by
    rw [pre, List.length_cons, bulk_eq]
    have key : ∀ l : List Q, (l.flatMap (pre f)).length * 4 ≤ bulks l := by
      intro l
      induction l with
      | nil => simp
      | cons a l ih =>
        rw [List.flatMap_cons, List.length_append, bulks]
        have := pre_bulk f a
        omega
    have := key q.parts
    omega
theorem flat_bulk (f : Nat) (l : List Q) : (l.flatMap (pre f)).length * 4 ≤ bulks l := by
  induction l with
  | nil => simp
  | cons a l ih =>
    rw [List.flatMap_cons, List.length_append, bulks]
    have := pre_bulk f a
    omega
theorem take_bulk : ∀ {l : List Q} {m : Nat} (h : m < l.length), bulks (l.take m) + l[m].bulk ≤ bulks l
  | a :: l, 0, h => by simp [bulks]
  | a :: l, m + 1, h => by
    have := take_bulk (l := l) (m := m) (by simpa using h)
    rw [List.take_succ_cons, bulks, bulks, List.getElem_cons_succ]
    omega
theorem lev_le : ∀ (f : Nat) (q : Q), lev f q ≤ f
  | 0, q => by simp [lev]
  | f + 1, q => by
    rw [lev]
    have : top (q.parts.map (lev f)) ≤ f := top_le.2 fun a ha => by
      obtain ⟨p, _, rfl⟩ := List.mem_map.1 ha
      exact lev_le f p
    omega
theorem top_lev_le (f : Nat) (l : List Q) : top (l.map (lev f)) ≤ f := top_le.2 fun a ha => by
  obtain ⟨p, _, rfl⟩ := List.mem_map.1 ha
  exact lev_le f p
theorem pre_mem_bulk : ∀ (f : Nat) (q : Q), ∀ p ∈ pre f q, p.bulk ≤ q.bulk
  | 0, q, p, h => by cases h
  | f + 1, q, p, h => by
    rw [pre] at h
    rcases List.mem_cons.1 h with e | e
    · rw [e]; exact Nat.le_refl _
    · obtain ⟨r, hr, hp⟩ := List.mem_flatMap.1 e
      have h1 := pre_mem_bulk f r p hp
      have h2 := bulks_mem hr
      rw [bulk_eq q]; omega
end Q
end Go.Proofs.YtihhgmpanfboaaaGreatDoor
namespace Go.Proofs.YtihhgmpanfboaaaGreatDoor
set_option linter.unusedVariables false
open Go.Lib
namespace Q
def join (sep : Str) : List Str → Str
  | [] => []
  | a :: l => a ++ l.flatMap (fun b => sep ++ b)
def wrap (k : Int) (p : Q) (s : Str) : Str := if p.kind = 7 ∨ (p.kind = 6 ∧ k ≠ 7) then 40 :: s ++ [41] else s
/-- a number's digits, for numbers from 0 to 99 -/
def itoa (n : Int) : Str := if n < 10 then [UInt8.ofNat (48 + n.toNat)] else [UInt8.ofNat (48 + n.toNat / 10), UInt8.ofNat (48 + n.toNat % 10)]
def textF : Nat → Q → Str
  | 0, _ => []
  | f + 1, q =>
    if q.kind = 2 then q.text else if q.kind = 3 then q.text ++ [42] else if q.kind = 4 then 34 :: q.text ++ [34]
    else if q.kind = 5 then (splitS q.text).headD [] ++ 126 :: itoa q.num ++ 58 :: (splitS q.text).getD 1 []
    else if q.kind = 6 then join [32] (q.parts.map fun p => wrap q.kind p (textF f p))
    else if q.kind = 7 then join [32, 124, 32] (q.parts.map fun p => wrap q.kind p (textF f p))
    else if q.kind = 8 then 45 :: join [] (q.parts.map fun p => wrap q.kind p (textF f p))
    else [42]
/-- the letters ahead -/
def spanW : Nat → Str → Str × Str
  | 0, r => ([], r)
  | n + 1, r => if r = [] then ([], []) else if Sm.isL (decodeL r).1 then (r.take (decodeL r).2 ++ (spanW n (r.drop (decodeL r).2)).1, (spanW n (r.drop (decodeL r).2)).2) else ([], r)
def wordS (r : Str) : Str × Str := spanW r.length r
def skipS (r : Str) : Str := r.dropWhile (· == 32)
def digit (c : UInt8) : Bool := decide (48 ≤ c) && decide (c ≤ 57)
def numOf (l : Str) : Int := l.foldl (fun n c => 10 * n + ((c.toNat : Int) - 48)) 0
inductive Res where
  | ok (q : Q) (rest : Str)
  | err (rest : Str)
def phraseS : Nat → Str → List Str × Str
  | 0, r => ([], r)
  | n + 1, r => if (wordS (skipS r)).1 = [] then ([], skipS r) else (Sm.lower (wordS (skipS r)).1 :: (phraseS n (wordS (skipS r)).2).1, (phraseS n (wordS (skipS r)).2).2)
def quotedS (t : Str) : Res :=
  if (phraseS (t.length + 1) t).2.head? = some 34 ∧ (phraseS (t.length + 1) t).1 ≠ [] then .ok (.node 4 (join [32] (phraseS (t.length + 1) t).1) 0 []) (phraseS (t.length + 1) t).2.tail
  else .err (phraseS (t.length + 1) t).2
def nearS (w v : Str) : Res :=
  if (v.takeWhile digit) = [] ∨ 4 < (v.takeWhile digit).length then .err v
  else match v.dropWhile digit with
    | 58 :: u => if (wordS u).1 = [] then .err (wordS u).2 else .ok (.node 5 (w ++ 32 :: Sm.lower (wordS u).1) (numOf (v.takeWhile digit)) []) (wordS u).2
    | u => .err u
def wordTerm (r : Str) : Res :=
  if (wordS r).1 = [] then .err r
  else match (wordS r).2 with
    | 42 :: v => .ok (.node 3 (Sm.lower (wordS r).1) 0 []) v
    | 126 :: v => nearS (Sm.lower (wordS r).1) v
    | v => .ok (.node 2 (Sm.lower (wordS r).1) 0 []) v
def several (k : Int) (l : List Q) : Q := match l with | [q] => q | l => .node k [] 0 l
def begins (r : Str) : Bool := !(r == []) && (Sm.isL (decodeL r).1 || (r.headD 0 == 45 || (r.headD 0 == 40 || (r.headD 0 == 34 || r.headD 0 == 42))))
def bothGo (T : Str → Res) : Nat → List Q → Str → Res
  | 0, l, r => .ok (several 6 l) r
  | n + 1, l, r => if begins r then match T r with | .ok q u => bothGo T n (l ++ [q]) (skipS u) | .err u => .err u else .ok (several 6 l) r
def bothOf (T : Str → Res) (r : Str) : Res := match T (skipS r) with | .ok q u => bothGo T (u.length + 1) [q] (skipS u) | .err u => .err u
def eitherGo (T : Str → Res) : Nat → List Q → Str → Res
  | 0, l, r => .ok (several 7 l) r
  | n + 1, l, r => match r with
    | 124 :: t => match bothOf T t with | .ok q u => eitherGo T n (l ++ [q]) u | .err u => .err u
    | r => .ok (several 7 l) r
def eitherOf (T : Str → Res) (r : Str) : Res := match bothOf T r with | .ok q u => eitherGo T (u.length + 1) [q] u | .err u => .err u
def termS : Nat → Str → Res
  | 0, r => .err r
  | f + 1, r => match r with
    | 45 :: t => match termS f t with | .ok q u => .ok (.node 8 [] 0 [q]) u | .err u => .err u
    | 40 :: t => match eitherOf (termS f) t with | .ok q (41 :: u) => .ok q u | .ok q u => .err u | .err u => .err u
    | 34 :: t => quotedS t
    | 42 :: t => .ok (.node 1 [] 0 []) t
    | r => wordTerm r
def parseS (s : Str) : Res := match eitherOf (termS (s.length + 1)) s with | .ok q [] => .ok q [] | .ok q u => .err u | .err u => .err u
/-- the reader's result: the query, the fault -/
def parseF (s : Str) : Q × Int × Int :=
  if 4000 < s.length then (.node 0 [] 0 [], 1, -1)
  else match parseS s with
    | .ok q _ => if (fault q).1 ≠ 0 then (.node 0 [] 0 [], fault q) else (q, 0, 0)
    | .err u => (.node 0 [] 0 [], 11, (s.length : Int) - (u.length : Int))
end Q
end Go.Proofs.YtihhgmpanfboaaaGreatDoor

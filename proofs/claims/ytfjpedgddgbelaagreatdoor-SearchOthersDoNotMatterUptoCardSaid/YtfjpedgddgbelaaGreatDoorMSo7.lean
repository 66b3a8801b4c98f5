/-
  Contracts and plain facts, one after another: Queries in memory: a node's four cells, its parts a row of nodes; f: how deep the rows go. No program is named here; Queries, as the rows take them; stem.Lower; Lists of texts: HasText; The reference's Lower and Words; strings.FieldsFuncSeq at stem.words' predicate: the iterator; Lists of texts: their type's numbers; Texts; stem: a rule applied; stem: a step (printed by gen/smstep.py).
-/
import Derived.Test.YtfjpedgddgbelaaGreatDoorMSo6
import Derived.Test.YtfjpedgddgbelaaGreatDoorMSo4
import Derived.Test.YtfjpedgddgbelaaGreatDoorMSo1
import Derived.Test.YtfjpedgddgbelaaGreatDoorMSo3
import Derived.Test.YtfjpedgddgbelaaGreatDoorMSo2
import Derived.Shelf.Strings.CaseAny
import Derived.Lib.OthersKept
import Derived.IntWalk
import Derived.Outline
import Derived.Stop.RegionWithIn
import Derived.OwnWalkIn
import Derived.TacticsInMore
import Derived.LoopNIn
import Derived.LoopIn
import Derived.Deep.QuietTactic
import Derived.BigQuiet
/-
  Queries in memory: a node's four cells, its parts a row of nodes; f: how deep the rows go. No program is named here.
-/
namespace Go.Proofs.YtfjpedgddgbelaaGreatDoor
open Go.RowKit
set_option linter.unusedVariables false
structure QRd where
  rd : (Nat → Prop) → World → List Value → Q → Prop
  len : ∀ {M : Nat → Prop} {w : World} {cs : List Value} {a : Q}, rd M w cs a → cs.length = 4
  one : ∀ {M : Nat → Prop} {w : World} {cs : List Value} {a : Q}, rd M w cs a → ∀ u ∈ cs, u.oneCell' = true
  keep : ∀ {M : Nat → Prop} {w w' : World} {cs : List Value} {a : Q}, rd M w cs a → (∀ b, b < w.heap.size → ¬ M b → w'.heap[b]? = w.heap[b]?) → w.heap.size ≤ w'.heap.size → rd M w' cs a
  sub : ∀ {M M' : Nat → Prop} {w : World} {cs : List Value} {a : Q}, rd M w cs a → (∀ b, b < w.heap.size → M' b → M b) → rd M' w cs a
def QRd.codec (c : QRd) : Codec Q := ⟨4, by omega, c.rd, c.len, c.one, c.keep, c.sub⟩
def qStep (c : QRd) : QRd where
  rd M w cs q := ∃ v, cs = [.int .i64 q.kind, .string (bs q.text), .int .i64 q.num, v] ∧ (-9223372036854775808 ≤ q.kind ∧ q.kind ≤ 9223372036854775807) ∧ q.text.length ≤ maxLen ∧ (-9223372036854775808 ≤ q.num ∧ q.num ≤ 9223372036854775807) ∧ SlR c.codec M w v q.parts
  len h := by obtain ⟨v, rfl, _⟩ := h; rfl
  one h u hu := by
    obtain ⟨v, rfl, _, _, _, hv⟩ := h
    obtain ⟨A, c, rfl, _⟩ := hv.form
    simp only [List.mem_cons, List.not_mem_nil, or_false] at hu
    rcases hu with rfl | rfl | rfl | rfl <;> rfl
  keep h hk hs := by
    obtain ⟨v, e, h1, h2, h3, hv⟩ := h
    exact ⟨v, e, h1, h2, h3, hv.keep hk hs⟩
  sub h hm := by
    obtain ⟨v, e, h1, h2, h3, hv⟩ := h
    exact ⟨v, e, h1, h2, h3, hv.sub hm⟩
def qc : Nat → QRd
  | 0 => ⟨fun _ _ _ _ => False, fun h => h.elim, fun h => h.elim, fun h => h.elim, fun h => h.elim⟩
  | f + 1 => qStep (qc f)
/-- a query of f levels at most -/
def qF (f : Nat) : Codec Q := (qc f).codec
theorem qF_n (f : Nat) : (qF f).n = 4 := rfl
theorem Els.weaken {α : Type} {C D : Codec α} {M : Nat → Prop} {w : World} {xs : List Value} {l : List α} (hn : C.n = D.n) (h : Els C M w xs l) (hw : ∀ cs, ∀ a ∈ l, C.rd M w cs a → D.rd M w cs a) : Els D M w xs l := by
  refine ⟨by rw [h.1, hn], fun i hi => ?_⟩
  have := hw _ _ (List.getElem_mem hi) (h.2 i hi)
  rwa [hn] at this
theorem SlR.weaken {α : Type} {C D : Codec α} {M : Nat → Prop} {w : World} {v : Value} {l : List α} (hn : C.n = D.n) (h : SlR C M w v l) (hw : ∀ cs, ∀ a ∈ l, C.rd M w cs a → D.rd M w cs a) : SlR D M w v l := by
  obtain ⟨A, n, c, xs, rfl, h1, h2, h3, h4, h5⟩ := h
  exact ⟨A, n, c, xs, rfl, h1, h2, h3, h4.weaken hn hw, h5⟩
theorem qF_up : ∀ {f : Nat} {M : Nat → Prop} {w : World} {cs : List Value} {q : Q}, (qF f).rd M w cs q → (qF (f + 1)).rd M w cs q
  | 0, _, _, _, _, h => h.elim
  | f + 1, _, _, _, _, ⟨v, e, h1, h2, h3, hv⟩ => ⟨v, e, h1, h2, h3, SlR.weaken (C := qF f) (D := qF (f + 1)) rfl hv fun cs a _ h => qF_up h⟩
theorem qF_mono {f g : Nat} (hfg : f ≤ g) {M : Nat → Prop} {w : World} {cs : List Value} {q : Q} (h : (qF f).rd M w cs q) : (qF g).rd M w cs q := by
  induction hfg with
  | refl => exact h
  | step _ ih => exact qF_up ih
theorem SlR.qMono {f g : Nat} (hfg : f ≤ g) {M : Nat → Prop} {w : World} {v : Value} {l : List Q} (h : SlR (qF f) M w v l) : SlR (qF g) M w v l :=
  SlR.weaken (C := qF f) (D := qF g) rfl h fun _ _ _ h => qF_mono hfg h
/-- a node's value -/
def QAt (f : Nat) (M : Nat → Prop) (w : World) (v : Value) (q : Q) : Prop :=
  ∃ A c, v = .agg #[.int .i64 q.kind, .string (bs q.text), .int .i64 q.num, .slice A q.parts.length c] ∧ (-9223372036854775808 ≤ q.kind ∧ q.kind ≤ 9223372036854775807) ∧ q.text.length ≤ maxLen ∧ (-9223372036854775808 ≤ q.num ∧ q.num ≤ 9223372036854775807) ∧ SlR (qF f) M w (.slice A q.parts.length c) q.parts
theorem QAt.ext {f : Nat} {M : Nat → Prop} {w w' : World} {v : Value} {q : Q} (h : QAt f M w v q) (hb : Below w.heap.size w w') : QAt f M w' v q := by
  obtain ⟨A, c, e, h1, h2, h3, hv⟩ := h
  exact ⟨A, c, e, h1, h2, h3, hv.ext hb⟩
theorem QAt.mono {f g : Nat} (hfg : f ≤ g) {M : Nat → Prop} {w : World} {v : Value} {q : Q} (h : QAt f M w v q) : QAt g M w v q := by
  obtain ⟨A, c, e, h1, h2, h3, hv⟩ := h
  exact ⟨A, c, e, h1, h2, h3, hv.qMono hfg⟩
theorem QAt.of_rd {f : Nat} {M : Nat → Prop} {w : World} {a : Array Value} {q : Q} (h : (qF f).rd M w (Value.agg a).cells.toList q) : ∃ g, f = g + 1 ∧ QAt g M w (.agg a) q := by
  cases f with
  | zero => exact h.elim
  | succ g =>
    obtain ⟨v, e, h1, h2, h3, hv⟩ := h
    obtain ⟨A, c, rfl, _⟩ := hv.form
    have h4 : a.toList = _ := e
    refine ⟨g, rfl, A, c, ?_, h1, h2, h3, hv⟩
    rw [← Array.toArray_toList (xs := a), h4]
theorem QAt.rd {f : Nat} {M : Nat → Prop} {w : World} {v : Value} {q : Q} (h : QAt f M w v q) : (qF (f + 1)).rd M w v.cells.toList q := by
  obtain ⟨A, c, rfl, h1, h2, h3, hv⟩ := h
  exact ⟨_, rfl, h1, h2, h3, hv⟩
/-- part k of a row -/
theorem SlR.qAt {f : Nat} {M : Nat → Prop} {w : World} {A : Option Addr} {n c : Nat} {l : List Q} (h : SlR (qF f) M w (.slice A n c) l) {k : Nat} (hk : k < l.length) :
    ∃ b off g A2 c2, A = some ⟨b, off, none⟩ ∧ f = g + 1 ∧ ¬ M b ∧ b < w.heap.size ∧ w.cell? ⟨b, off + k * 4, none⟩ = some (.int .i64 l[k].kind) ∧ w.cell? ⟨b, off + k * 4 + 1, none⟩ = some (.string (bs l[k].text)) ∧
      w.cell? ⟨b, off + k * 4 + 2, none⟩ = some (.int .i64 l[k].num) ∧ w.cell? ⟨b, off + k * 4 + 3, none⟩ = some (.slice A2 l[k].parts.length c2) ∧
      QAt g M w (.agg #[.int .i64 l[k].kind, .string (bs l[k].text), .int .i64 l[k].num, .slice A2 l[k].parts.length c2]) l[k] := by
  obtain ⟨b, off, cs, rfl, hM, hb, hr, hc⟩ := h.at_ hk
  cases f with
  | zero => exact hr.elim
  | succ g =>
    obtain ⟨v, rfl, h1, h2, h3, hv⟩ := hr
    obtain ⟨A2, c2, rfl, _⟩ := hv.form
    exact ⟨b, off, g, A2, c2, rfl, rfl, hM, hb, hc 0 _ rfl, hc 1 _ rfl, hc 2 _ rfl, hc 3 _ rfl, A2, c2, rfl, h1, h2, h3, hv⟩
namespace Q
/-- a property of queries, by their parts -/
theorem ind {p : Q → Prop} (h : ∀ k t n l, (∀ q ∈ l, p q) → p (.node k t n l)) : ∀ q, p q
  | .node k t n l => h k t n l (go l)
where go : ∀ l : List Q, ∀ q ∈ l, p q
  | [], _, hq => by cases hq
  | a :: l, q, hq => by
    rcases List.mem_cons.1 hq with e | e
    · rw [e]; exact ind h a
    · exact go l q e
mutual
/-- how much a query holds -/
def bulk : Q → Nat
  | .node _ t _ l => t.length + 4 + bulks l
def bulks : List Q → Nat
  | [] => 0
  | a :: l => bulk a + bulks l
end
theorem bulks_mem {l : List Q} {q : Q} (h : q ∈ l) : q.bulk ≤ bulks l := by
  induction l with
  | nil => cases h
  | cons a l ih =>
    rw [bulks]
    rcases List.mem_cons.1 h with e | e
    · rw [e]; omega
    · have := ih e; omega
theorem bulk_eq (q : Q) : q.bulk = q.text.length + 4 + bulks q.parts := by
  cases q; rw [bulk]; rfl
theorem bulks_len (l : List Q) : 4 * l.length ≤ bulks l := by
  induction l with
  | nil => simp [bulks]
  | cons a l ih => rw [bulks, bulk_eq, List.length_cons]; omega
/-- as many nodes as levels allow weigh no more than the whole -/
theorem pre_bulk : ∀ (f : Nat) (q : Q), (pre f q).length * 4 ≤ q.bulk
  | 0, q => by simp [pre]
  | f + 1, q => by
    rw [pre, List.length_cons, bulk_eq]
    have key : ∀ l : List Q, (l.flatMap (pre f)).length * 4 ≤ bulks l := by
      intro l
      induction l with
      | nil => simp
      | cons a l ih =>
        rw [List.flatMap_cons, List.length_append, bulks]
        have := pre_bulk f a
        omega
    have := key q.parts
    omega
theorem flat_bulk (f : Nat) (l : List Q) : (l.flatMap (pre f)).length * 4 ≤ bulks l := by
  induction l with
  | nil => simp
  | cons a l ih =>
    rw [List.flatMap_cons, List.length_append, bulks]
    have := pre_bulk f a
    omega
theorem take_bulk : ∀ {l : List Q} {m : Nat} (h : m < l.length), bulks (l.take m) + l[m].bulk ≤ bulks l
  | a :: l, 0, h => by simp [bulks]
  | a :: l, m + 1, h => by
    have := take_bulk (l := l) (m := m) (by simpa using h)
    rw [List.take_succ_cons, bulks, bulks, List.getElem_cons_succ]
    omega
theorem lev_le : ∀ (f : Nat) (q : Q), lev f q ≤ f
  | 0, q => by simp [lev]
  | f + 1, q => by
    rw [lev]
    have : top (q.parts.map (lev f)) ≤ f := top_le.2 fun a ha => by
      obtain ⟨p, _, rfl⟩ := List.mem_map.1 ha
      exact lev_le f p
    omega
theorem top_lev_le (f : Nat) (l : List Q) : top (l.map (lev f)) ≤ f := top_le.2 fun a ha => by
  obtain ⟨p, _, rfl⟩ := List.mem_map.1 ha
  exact lev_le f p
theorem pre_mem_bulk : ∀ (f : Nat) (q : Q), ∀ p ∈ pre f q, p.bulk ≤ q.bulk
  | 0, q, p, h => by cases h
  | f + 1, q, p, h => by
    rw [pre] at h
    rcases List.mem_cons.1 h with e | e
    · rw [e]; exact Nat.le_refl _
    · obtain ⟨r, hr, hp⟩ := List.mem_flatMap.1 e
      have h1 := pre_mem_bulk f r p hp
      have h2 := bulks_mem hr
      rw [bulk_eq q]; omega
end Q
end Go.Proofs.YtfjpedgddgbelaaGreatDoor
/-
  Queries, as the rows take them.
-/
namespace Go.Proofs.YtfjpedgddgbelaaGreatDoor
open Go.ChangeShapes Go.WideShapes Go.ChangeAt Go.RowKit
theorem slice_read {P : Program} {t e : TypeId} {α : Type} {C : Codec α} {bk : α → Nat} {H : Type} {enc : TypeId × Value → H} {w : World} {spare : Nat → Bool} {held : Bool} {m : Nat} {cs : List Value} {x : DataW H × List MemPlace} (hn : P.cellsOf e = C.n)
    (hR : ∀ (cs' : List Value) (y : DataW H × List MemPlace), DataW.trod enc P w 0 spare held m e cs' = some y → ∃ a : α, C.rd M0 w cs' a ∧ bk a ≤ Rows.uptoBulk y.1) (ht : P.underlying t = some (.slice e)) (h : DataW.trod enc P w 0 spare held (m + 1) t cs = some x) :
    ∃ a : List α, (sliceC C).rd M0 w cs a ∧ 1 + (a.map bk).sum ≤ Rows.uptoBulk x.1 := by
  rcases DataW.trod_slice ht h with ⟨rfl, rfl⟩ | ⟨a, len, cap, elems, rest, n, hmn, rfl, rfl, _, hl, hm, hlen, hel, _, _⟩
  · exact ⟨[], ⟨_, rfl, SlR.nil C M0 w⟩, by simp [Rows.uptoBulk]⟩
  · obtain rfl : m = n := by omega
    rw [hn] at hel
    have each : ∀ i, i < len → ∃ y : α, (∃ cs' : List Value, cs'.length = C.n ∧ (∀ j, j < C.n → w.cell? ((a.add (i * C.n)).add j) = cs'[j]?) ∧ C.rd M0 w cs' y) ∧ ∀ (hi : i < elems.length), bk y ≤ Rows.uptoBulk (elems[i].1) := by
      intro i hi
      have h1 := hel i hi
      have hi' : i < elems.length := by omega
      rw [List.getElem?_eq_getElem hi', Option.bind_eq_some_iff] at h1
      obtain ⟨cs', hc', ht'⟩ := h1
      obtain ⟨_, hcl, hat⟩ := World.cells?_some hc'
      obtain ⟨y, hy1, hy2⟩ := hR cs' _ ht'
      exact ⟨y, ⟨cs', hcl, fun j hj => hat j hj, hy1⟩, fun _ => hy2⟩
    obtain ⟨l, hll, hp⟩ := exists_list len _ each
    obtain ⟨xs, hxl, hx⟩ := exists_list (len * C.n) (fun j (u : Value) => w.cell? (a.add j) = some u) (fun j hj => by
      have hq : j / C.n < len := (Nat.div_lt_iff_lt_mul C.pos).2 hj
      obtain ⟨y, ⟨cs', hcl, hat, _⟩, _⟩ := each _ hq
      have hm := Nat.mod_lt j C.pos
      have hc := hat (j % C.n) hm
      rw [add_add'] at hc
      have hdm := Nat.div_add_mod j C.n
      rw [Nat.mul_comm] at hdm
      rw [hdm] at hc
      rw [List.getElem?_eq_getElem (by omega)] at hc
      exact ⟨_, hc⟩)
    refine ⟨l, ⟨_, rfl, some a, len, cap, xs, rfl, hll.symm, hl, hm, ⟨by rw [hxl, hll], fun i hi => ?_⟩, fun h0 => ?_⟩, ?_⟩
    · obtain ⟨⟨cs', hcl, hat, hrd⟩, _⟩ := hp i hi
      have hik : (i + 1) * C.n ≤ len * C.n := Nat.mul_le_mul_right _ (by omega)
      rw [Nat.add_mul, Nat.one_mul] at hik
      have : (xs.drop (i * C.n)).take C.n = cs' := by
        apply List.ext_getElem?
        intro j
        by_cases hj : j < C.n
        · rw [List.getElem?_take, if_pos hj, List.getElem?_drop, ← hat j hj, add_add', hx (i * C.n + j) (by omega), List.getElem?_eq_getElem (by omega)]
        · rw [List.getElem?_eq_none (by rw [List.length_take]; omega), List.getElem?_eq_none (by omega)]
      rw [this]
      exact hrd
    · have hp := C.pos
      have h00 : 0 < xs.length := by rw [hxl]; exact Nat.mul_pos h0 hp
      have hc0 := hx 0 h00
      have hspot : a.spot = none := by
        have : a.add 0 = a := by simp [Addr.add]
        rw [this] at hc0
        exact World.cell?_spot hc0
      obtain ⟨b, off, spot⟩ := a
      simp only at hspot
      subst hspot
      have hlt := World.block_lt_of_cell? w _ hc0
      refine ⟨b, off, rfl, fun h => h.elim, by simpa [Addr.add] using hlt, fun j u hu => ?_⟩
      have hj : j < xs.length := (List.getElem?_eq_some_iff.1 hu).1
      have := hx j hj
      rw [Addr.add_lit] at this
      rw [this, ← hu, List.getElem?_eq_getElem hj]
    · have := sum_le_of bk (fun y : DataW H × List MemPlace => Rows.uptoBulk y.1) l elems (by omega) fun i h1 h2 => (hp i h1).2 h2
      simp only [Rows.uptoBulk, bulk_all, List.map_map]
      have e : (Rows.uptoBulk ∘ fun x : DataW H × List MemPlace => x.1) = fun y : DataW H × List MemPlace => Rows.uptoBulk y.1 := rfl
      rw [e]
      omega
theorem bulks_sum (l : List Q) : Q.bulks l = (l.map Q.bulk).sum := by
  induction l with
  | nil => rfl
  | cons a l ih => rw [Q.bulks, ih, List.map_cons, List.sum_cons]
theorem trod_four {P : Program} {H : Type} {enc : TypeId × Value → H} {w : World} {spare : Nat → Bool} {held : Bool} {t : TypeId} {f0 f1 f2 f3 : Field} {fuel : Nat} {cs : List Value} {x : DataW H × List MemPlace} (ht : P.underlying t = some (.struct #[f0, f1, f2, f3])) (h : DataW.trod enc P w 0 spare held fuel t cs = some x) :
    ∃ y0 y1 y2 y3 n, fuel = n + 1 ∧ x.1 = .agg [y0.1, y1.1, y2.1, y3.1] ∧ cs.length = P.cellsOf t ∧ DataW.trod enc P w 0 spare held n f0.type ((cs.drop f0.offset).take (P.cellsOf f0.type)) = some y0 ∧
      DataW.trod enc P w 0 spare held n f1.type ((cs.drop f1.offset).take (P.cellsOf f1.type)) = some y1 ∧ DataW.trod enc P w 0 spare held n f2.type ((cs.drop f2.offset).take (P.cellsOf f2.type)) = some y2 ∧
      DataW.trod enc P w 0 spare held n f3.type ((cs.drop f3.offset).take (P.cellsOf f3.type)) = some y3 := by
  obtain ⟨xs, n, e, rfl, hl, hlen, hf⟩ := DataW.trod_struct ht h
  match xs, hlen with
  | [y0, y1, y2, y3], _ => exact ⟨y0, y1, y2, y3, n, e, rfl, hl, by simpa using hf 0 f0 rfl, by simpa using hf 1 f1 rfl, by simpa using hf 2 f2 rfl, by simpa using hf 3 f3 rfl⟩
theorem list_four {α : Type} {cs : List α} (h : cs.length = 4) : ∃ c0 c1 c2 c3, cs = [c0, c1, c2, c3] := by
  match cs, h with
  | [a, b, c, d], _ => exact ⟨a, b, c, d, rfl⟩
theorem query_read {H : Type} (enc : TypeId × Value → H) (w : World) (spare : Nat → Bool) (held : Bool) : ∀ (fuel : Nat) (cs : List Value) (x : DataW H × List MemPlace), DataW.trod enc Tryz.prog w 0 spare held fuel 50 cs = some x →
    ∃ q : Q, (qF fuel).rd M0 w cs q ∧ q.bulk ≤ Rows.uptoBulk x.1 := by
  intro fuel
  induction fuel using Nat.strongRecOn with
  | _ fuel ih =>
    intro cs x h
    obtain ⟨x0, x1, x2, x3, n, rfl, hx, hl, e0, e1, e2, e3⟩ := trod_four Tryz.underlying50 h
    have k0 : Tryz.prog.cellsOf 3 = 1 := by kernel_rfl
    have k1 : Tryz.prog.cellsOf 9 = 1 := by kernel_rfl
    have k3 : Tryz.prog.cellsOf 48 = 1 := by kernel_rfl
    have k4 : Tryz.prog.cellsOf 50 = 4 := by kernel_rfl
    rw [k4] at hl
    obtain ⟨c0, c1, c2, c3, rfl⟩ := list_four hl
    rw [k0] at e0
    rw [k1] at e1
    rw [k0] at e2
    rw [k3] at e3
    replace e0 : DataW.trod enc Tryz.prog w 0 spare held n 3 [c0] = some x0 := e0
    replace e1 : DataW.trod enc Tryz.prog w 0 spare held n 9 [c1] = some x1 := e1
    replace e2 : DataW.trod enc Tryz.prog w 0 spare held n 3 [c2] = some x2 := e2
    replace e3 : DataW.trod enc Tryz.prog w 0 spare held n 48 [c3] = some x3 := e3
    obtain ⟨a0, ⟨h0, b0, b0'⟩, _⟩ := (reads_int Tryz.underlying3 k0).2 H enc w spare held n _ x0 e0
    obtain ⟨a1, ⟨h1, b1⟩, g1⟩ := (reads_string Tryz.underlying9 k1).2 H enc w spare held n _ x1 e1
    obtain ⟨a2, ⟨h2, b2, b2'⟩, _⟩ := (reads_int Tryz.underlying3 k0).2 H enc w spare held n _ x2 e2
    cases n with
    | zero => simp [DataW.trod] at e3
    | succ m =>
      obtain ⟨a3, ⟨v, h3, s3⟩, g3⟩ := slice_read (C := qF m) (bk := Q.bulk) k4 (fun cs' y hy => ih m (by omega) cs' y hy) Tryz.underlying48 e3
      injection h0 with h0
      injection h1 with h1
      injection h2 with h2
      injection h3 with h3
      subst h0 h1 h2 h3
      refine ⟨.node a0 a1 a2 a3, ⟨c3, rfl, ⟨b0, b0'⟩, b1, ⟨b2, b2'⟩, s3.qMono (by omega)⟩, ?_⟩
      have p0 := bulk_pos x0.1
      have p2 := bulk_pos x2.1
      replace g1 : a1.length + 1 ≤ Rows.uptoBulk x1.1 := g1
      rw [hx]
      simp only [Rows.uptoBulk, bulk_all, List.map_cons, List.map_nil, List.sum_cons, List.sum_nil, Q.bulk, bulks_sum]
      omega
theorem query_arg {H : Type} {enc : TypeId × Value → H} {w : World} {spare : Nat → Bool} {held : Bool} {a : Array Value} {d : DataW H} {p : List MemPlace}
    (h : ∃ fuel, DataW.trod enc Tryz.prog w 0 spare held fuel 50 (Value.agg a).cells.toList = some (d, p)) : ∃ (f : Nat) (q : Q), QAt f M0 w (.agg a) q ∧ q.bulk ≤ Rows.uptoBulk d := by
  obtain ⟨fuel, h⟩ := h
  obtain ⟨q, h1, h2⟩ := query_read enc w spare held fuel _ _ h
  obtain ⟨g, _, hq⟩ := QAt.of_rd h1
  exact ⟨g, q, hq, h2⟩
end Go.Proofs.YtfjpedgddgbelaaGreatDoor
/-
  stem.Lower.
-/
namespace Go.Proofs.YtfjpedgddgbelaaGreatDoor
open Go.RowKit
set_option linter.unusedVariables false
theorem own_cells {w : World} {B : Nat} {e : TypeId} {v : Value} {l : List UInt8} (h : w.ownsRow B e 1 v l.length (Lib.byteCells l)) : Own byteC M0 w B e v l :=
  ⟨_, h, lit_bytes _ _ l⟩
theorem cells_own {w : World} {B : Nat} {e : TypeId} {v : Value} {l : List UInt8} (h : Own byteC M0 w B e v l) : w.ownsRow B e 1 v l.length (Lib.byteCells l) := by
  obtain ⟨xs, ho, he⟩ := h
  have hx : xs = Lib.byteCells l := by
    have h1 : xs.length = l.length := by rw [he.1]; simp [byteC]
    apply List.ext_getElem
    · rw [h1]; simp [Lib.byteCells]
    · intro i h2 h3
      have hi : i < l.length := by omega
      have hr := he.2 i hi
      have hr' : (xs.drop (i * 1)).take 1 = [Value.int .u8 (l[i].toNat : Int)] := hr
      rw [Nat.mul_one] at hr'
      have h4 := congrArg (fun z => z[0]?) hr'
      simp only [List.getElem?_take, List.getElem?_drop, Nat.add_zero, List.getElem?_eq_getElem h2] at h4
      simp at h4
      rw [h4]
      simp [Lib.byteCells]
  exact hx ▸ ho
theorem appendRune_ok (B : Nat) (v : Value) (L : Str) (r : Int) (h0 : -2147483648 ≤ r) (h1 : r ≤ 2147483647) (w : World) (hown : Own byteC M0 w B 5 v L) (hlen : L.length + 4 ≤ 140737488355328) (hB : B ≤ w.heap.size) :
    Calls Tryz.prog 121 #[v, .int .i32 r] w fun e w' => ∃ (A : Option Addr) (c : Nat) (L' : Str), e = .returned (.slice A L'.length c) ∧ Hid (L' = L ++ Lib.encodeRune r) ∧ Own byteC M0 w' B 5 (.slice A L'.length c) L' ∧
      Hid (∀ b, b < w.heap.size → some b ≠ v.ownBlock → w'.heap[b]? = w.heap[b]?) ∧ Below B w w' := by
  refine (Tryz.utf8_AppendRune_plain B v L.length (Lib.byteCells L) r h0 h1 w (cells_own hown) hlen hB).mono ?_
  rintro e w' ⟨v', rfl, ho, o, hg⟩
  have hl : L.length + (Lib.runeCells r).length = (L ++ Lib.encodeRune r).length := by rw [List.length_append, Lib.runeCells_length]
  rw [← Lib.byteCells_encodeRune, ← Lib.byteCells_append] at ho
  rw [Lib.byteCells_encodeRune, hl] at ho
  have hO := own_cells ho
  obtain ⟨A, c, rfl, _⟩ := hO.shape
  refine ⟨A, c, _, rfl, Lib.hid rfl, hO, Lib.hid fun b hb hne => ?_, ?_⟩
  · exact (hg.block b (by simp; omega) hne).trans (Below.heap_alloc w o b hb)
  · exact ((Below.refl B w).alloc hB o).grown hg (by simp; omega) fun k hk => hown.base k hk
theorem drop_ne {s : Str} {p : Nat} (h : p < s.length) : s.drop p ≠ [] := by
  intro h0
  have := congrArg List.length h0
  rw [List.length_drop] at this
  simp at this
  omega
set_option maxHeartbeats 2000000 in
theorem stemLower_ok (s : Str) (hs : s.length ≤ 4000000) (w : World) (hT : TabsU w) : Calls Tryz.prog 67 #[.string (bs s)] w fun e w' => e = .returned (.string (bs (Sm.lower s))) ∧ Below w.heap.size w w' := by
  have hlen := Sm.lower_len s.length s (Nat.le_refl _)
  have HT := Lib.hid hT
  clear hT
  go_enter Tryz.func67, Tryz.ntmps67
  go_wp2
  go_loopw [3] (fun v wr => ∃ (pos : Nat) (A : Option Addr) (c : Nat) (L : Str), v = .slice A L.length c ∧ pos ≤ s.length ∧ wr.heap[w.heap.size]? = some (.stringIter (bs s) pos) ∧ Own byteC M0 wr (w.heap.size + 1) 5 (.slice A L.length c) L ∧ Hid (L ++ Sm.lower (s.drop pos) = Sm.lower s) ∧ Below w.heap.size w wr) (fun _ wr => s.length - wr.iterPos w.heap.size)
  case atStart =>
    refine ⟨0, none, 0, [], rfl, Nat.zero_le _, ?_, Own.nil _ _ _ _ _, Lib.hid (by simp), ?_⟩
    · exact heap_alloc_new w _
    · exact (Below.refl _ _).alloc (Nat.le_refl _) _
  case round =>
    obtain ⟨pos, A, c, L, rfl, hpos, hit, hown, hL, hb⟩ := hrel
    have hpp0 := Lib.hid (iterPos_of hit)
    by_cases hp : pos < s.length
    · have hne := drop_ne hp
      have hst := Sm.lower_step hne
      have hdl := Lib.decodeL_drop (bs s) pos
      rw [bs_toList] at hdl
      have hw1 := Lib.decodeL_width (s.drop pos)
      have hw2 := Sm.width_le hne
      have hr := Lib.decodeL_rune (s.drop pos)
      rw [List.length_drop] at hw2
      have hnx := fun ty => Lib.run_next_any_at (P := Tryz.prog) wr w.heap.size (bs s) pos ty hit (by rw [bs_size]; exact hp)
      rw [← hdl] at hnx
      rw [List.drop_drop] at hst
      obtain ⟨r, hrr⟩ : ∃ r, (Lib.decodeL (s.drop pos)).1 = r := ⟨_, rfl⟩
      obtain ⟨n, hnn⟩ : ∃ n, (Lib.decodeL (s.drop pos)).2 = n := ⟨_, rfl⟩
      rw [hrr] at hst hr hnx
      rw [hnn] at hst hw1 hw2 hnx
      have hrg := Lib.toLowerU_range r hr
      have hlc : (L ++ Lib.encodeRune (Lib.toLowerU (r : Int))) ++ Sm.lower (s.drop (pos + n)) = Sm.lower s := by rw [← hL.out, hst, List.append_assoc]; rfl
      have hll : L.length + (Lib.encodeRune (Lib.toLowerU (r : Int))).length ≤ 16000000 := by
        have := congrArg List.length hlc
        rw [List.length_append, List.length_append] at this
        omega
      have hla : L.length + 4 ≤ 140737488355328 := by omega
      have Hlc := Lib.hid hlc
      clear hlc hst hdl hrr hnn hne
      have hit2 := Lib.iterAt_heap wr w.heap.size (bs s) pos (pos + n) hit
      have hb2 := Lib.below_iterAt hb (Nat.le_refl _) (bs s) (pos + n)
      have hsz := hb.size
      have hlt := (Array.getElem?_eq_some_iff.1 hit).1
      have hsz2 := Lib.iterAt_size wr w.heap.size (bs s) (pos + n)
      have hown2 : Own byteC M0 (wr.iterAt w.heap.size (bs s) (pos + n)) (w.heap.size + 1) 5 (.slice A L.length c) L := own_cells ((cells_own hown).kept (row := some w.heap.size)
        ⟨rfl, rfl, rfl, by rw [hsz2]; exact Nat.le_refl _, fun k hk hne => Lib.iterAt_other _ _ _ _ _ (fun e => hne (by rw [e]))⟩ (.inr fun e => by have := hown.base _ e; omega))
      obtain ⟨W, hW⟩ : ∃ W, wr.iterAt w.heap.size (bs s) (pos + n) = W := ⟨_, rfl⟩
      rw [hW] at hnx hit2 hb2 hown2 hsz2
      have HW := Lib.hid hW
      clear hW hown hb hit
      have hT := HT.out.ext hb2
      have hlow := Tryz.unicode_ToLower_laid (r : Int) W hT.case
      have Hlow := Lib.hid hlow
      clear hlow hT
      go_wp2_with fail
      refine Hlow.out.mono ?_
      rintro e w1 ⟨rfl, q, hw1q⟩
      have hbq : Below W.heap.size W w1 := hw1q ▸ below_drewN' _ _ _
      have hown3 := hown2.ext hbq
      have hit3 := (hbq.block _ (by omega)).trans hit2
      have hb3 := hb2.trans (hbq.mono (by omega))
      have hsz3 := hbq.size
      clear hw1q hown2 hit2 hb2 hbq
      have happ := appendRune_ok (w.heap.size + 1) _ L (Lib.toLowerU (r : Int)) (by omega) (by omega) w1 hown3 hla (by omega)
      generalize Lib.toLowerU (r : Int) = z at happ Hlc hll ⊢
      have Happ := Lib.hid happ
      have hnb : some w.heap.size ≠ (Value.slice A L.length c).ownBlock := fun e => by have := hown3.base _ e.symm; omega
      clear happ hown3
      go_wp2_with fail
      refine Happ.out.mono ?_
      rintro e w2 ⟨A2, c2, L2, rfl, hL2, hown4, hold, hb4⟩
      have hit4 := (hold.out _ (by omega) hnb).trans hit3
      have hb5 := hb3.trans (hb4.mono (by omega))
      have hpp := iterPos_of hit4
      clear Happ hold hb4 hit3
      go_wp2
      go_roundw
      case rel => exact ⟨pos + n, A2, c2, L2, rfl, by omega, hit4, hown4, Lib.hid (by rw [hL2.out, Hlc.out]), hb5⟩
      case measure => rw [hpp, hpp0.out]; omega
    · have hnx := fun ty => Lib.run_next_end_at (P := Tryz.prog) wr w.heap.size (bs s) pos ty hit (by rw [bs_size]; exact hp)
      have hres : L = Sm.lower s := by rw [← hL.out, List.drop_eq_nil_of_le (by omega), Sm.lower_nil, List.append_nil]
      have hcv := run_convert_SlR (P := Tryz.prog) (dst := 9) Tryz.underlying154 Tryz.underlying5 Tryz.underlying9 hown.read0
      have Hres := Lib.hid hres
      clear hres
      go_wp2
      go_ret
      exact ⟨ret_str (by rw [Hres.out]), hb⟩
end Go.Proofs.YtfjpedgddgbelaaGreatDoor
/-
  Lists of texts: HasText.
-/
namespace Go.Proofs.YtfjpedgddgbelaaGreatDoor
open Go.RowKit

def strOf : Value → Str
  | .string b => b.data.toList
  | _ => []
theorem anyL_true {α : Type} (s : List α) (p : α → Bool) (i : Nat) (hi : i < s.length) (h : p s[i] = true) : s.any p = true := by
  rw [List.any_eq_true]
  exact ⟨_, List.getElem_mem hi, h⟩
theorem any_true (s : List Str) (p : Str → Bool) (i : Nat) (hi : i < s.length) (h : p s[i] = true) : s.any p = true := by
  rw [List.any_eq_true]
  exact ⟨_, List.getElem_mem hi, h⟩
theorem any_false {α : Type} (s : List α) (p : α → Bool) (h : ∀ (i : Nat) (hi : i < s.length), p s[i] = false) : s.any p = false := by
  rw [List.any_eq_false]
  intro x hx
  obtain ⟨i, hi, rfl⟩ := List.mem_iff_getElem.1 hx
  rw [h i hi]; simp

set_option maxHeartbeats 400000 in
theorem hasText_ok (M : Nat → Prop) (v : Value) (l : List Str) (s : Str) (w : World) (h : SlR strC M w v l) : Calls Tryz.prog 73 #[v, .string (bs s)] w fun e w' => e = .returned (.bool (l.any (· == s))) ∧ w = w' := by
  obtain ⟨A, c, rfl, _, hcm⟩ := h.form
  have hn := h.len_le
  unfold maxLen at hn
  go_enter Tryz.func73, Tryz.ntmps73
  go_wp2
  go_loop [5] (fun i => ∃ k : Nat, k ≤ l.length ∧ i = .int .i64 k ∧ Hid (∀ (j : Nat) (hj : j < l.length), j < k → (l[j] == s) = false)) (fun i => l.length - (intOf i).toNat)
  case atStart => exact ⟨0, Nat.zero_le _, rfl, Lib.hid fun j _ h => absurd h (by omega)⟩
  case round =>
    obtain ⟨k, hk, rfl, hpre⟩ := hrel
    by_cases hlt : k < l.length
    · obtain ⟨b, off, rfl, _, _, hcell, _⟩ := h.strAt hlt
      obtain ⟨x, hx⟩ : ∃ x, x = l[k] := ⟨_, rfl⟩
      rw [← hx] at hcell
      have Hx := Lib.hid hx
      clear hx
      cases ht : (x == s) with
      | true =>
        go_wp2
        go_ret
        exact ⟨ret_bool (by rw [any_true l (· == s) k hlt (by rw [← Hx.out]; exact ht)]), rfl⟩
      | false =>
        go_wp2
        go_round
        case rel => exact ⟨k + 1, by omega, by go_num, Lib.hid fun j hj hjk => by
          by_cases e : j = k
          · subst e; rw [← Hx.out]; exact ht
          · exact hpre.out j hj (by omega)⟩
        case measure => simp [intOf]; omega
    · go_wp2
      go_ret
      exact ⟨ret_bool (by rw [any_false l (· == s) fun i hi => hpre.out i hi (by omega)]), rfl⟩
end Go.Proofs.YtfjpedgddgbelaaGreatDoor
/-
  The reference's Lower and Words.
-/
namespace Go.Proofs.YtfjpedgddgbelaaGreatDoor
open Go.RowKit
set_option linter.unusedVariables false
theorem encode_bs (z : Int) : Utf8.encode z = bs (Lib.encodeRune z) := by
  have hb : ∀ (a : Int) (b : Nat), a = (b : Int) → a.toNat.toUInt8 = UInt8.ofNat b := fun a b h => by subst h; simp
  unfold bs Lib.encodeRune
  by_cases h1 : 0 ≤ z ∧ z ≤ 127
  · rw [Lib.encodeRuneZ_one h1.1 h1.2]
    obtain ⟨c, rfl⟩ : ∃ c : Nat, z = (c : Int) := ⟨z.toNat, by omega⟩
    have hv : Utf8.valid (c : Int) = true := by simp [Utf8.valid]; omega
    simp [Utf8.encode, hv, show c < 128 by omega]
  · by_cases h2 : 128 ≤ z ∧ z ≤ 2047
    · rw [Lib.encodeRuneZ_two h2.1 h2.2]
      obtain ⟨c, rfl⟩ : ∃ c : Nat, z = (c : Int) := ⟨z.toNat, by omega⟩
      have hv : Utf8.valid (c : Int) = true := by simp [Utf8.valid]; omega
      simp only [Utf8.encode, hv, if_true, Int.toNat_natCast]
      rw [if_neg (by omega), if_pos (by omega)]
      simp only [List.map_cons, List.map_nil, hb (192 + (c : Int) / 64) (192 + c / 64) (by omega), hb (128 + (c : Int) % 64) (128 + c % 64) (by omega)]
    · by_cases h3 : (2048 ≤ z ∧ z < 55296) ∨ (57343 < z ∧ z ≤ 65535)
      · rw [Lib.encodeRuneZ_three h3]
        obtain ⟨c, rfl⟩ : ∃ c : Nat, z = (c : Int) := ⟨z.toNat, by omega⟩
        have hv : Utf8.valid (c : Int) = true := by simp [Utf8.valid]; omega
        simp only [Utf8.encode, hv, if_true, Int.toNat_natCast]
        rw [if_neg (by omega), if_neg (by omega), if_pos (by omega)]
        simp only [List.map_cons, List.map_nil, hb (224 + (c : Int) / 4096) (224 + c / 4096) (by omega), hb (128 + (c : Int) / 64 % 64) (128 + c / 64 % 64) (by omega), hb (128 + (c : Int) % 64) (128 + c % 64) (by omega)]
      · by_cases h4 : 65536 ≤ z ∧ z ≤ 1114111
        · rw [Lib.encodeRuneZ_four h4.1 h4.2]
          obtain ⟨c, rfl⟩ : ∃ c : Nat, z = (c : Int) := ⟨z.toNat, by omega⟩
          have hv : Utf8.valid (c : Int) = true := by simp [Utf8.valid]; omega
          simp only [Utf8.encode, hv, if_true, Int.toNat_natCast]
          rw [if_neg (by omega), if_neg (by omega), if_neg (by omega)]
          simp only [List.map_cons, List.map_nil, hb (240 + (c : Int) / 262144) (240 + c / 262144) (by omega), hb (128 + (c : Int) / 4096 % 64) (128 + c / 4096 % 64) (by omega), hb (128 + (c : Int) / 64 % 64) (128 + c / 64 % 64) (by omega), hb (128 + (c : Int) % 64) (128 + c % 64) (by omega)]
        · rw [Lib.encodeRuneZ_bad (by omega)]
          have hv : Utf8.valid z = false := by simp [Utf8.valid]; omega
          simp [Utf8.encode, hv, Utf8.runeError]
set_option maxHeartbeats 2000000 in
theorem refLower_ok (s : Str) (hs : s.length ≤ 4000000) (w : World) (hT : TabsU w) : Calls Tryz.prog 27 #[.string (bs s)] w fun e w' => e = .returned (.string (bs (Sm.lower s))) ∧ Below w.heap.size w w' := by
  have hlen := Sm.lower_len s.length s (Nat.le_refl _)
  have HT := Lib.hid hT
  clear hT
  obtain ⟨res, hres⟩ : ∃ r, Sm.lower s = r := ⟨_, rfl⟩
  rw [hres] at hlen ⊢
  have Hres := Lib.hid hres
  clear hres
  go_enter Tryz.func27, Tryz.ntmps27
  go_wp2
  go_loopw [0, 3] (fun t o wr => ∃ (l L : Str), t = .string (bs l) ∧ o = .string (bs L) ∧ l.length ≤ s.length ∧ Hid (L ++ Sm.lower l = res) ∧ Below w.heap.size w wr) (fun t _ _ => (strOf t).length)
  case atStart => exact ⟨s, [], rfl, rfl, Nat.le_refl _, Lib.hid (by rw [List.nil_append, Hres.out]), Below.refl _ _⟩
  case round =>
    obtain ⟨l, L, rfl, rfl, hl, hL, hb⟩ := hrel
    by_cases hne : l = []
    · subst hne
      have hr : res = L := by rw [← hL.out, Sm.lower_nil, List.append_nil]
      have Hr := Lib.hid hr
      clear hr
      go_wp2
      go_ret
      exact ⟨ret_str (by rw [Hr.out]), hb⟩
    · have hpos := List.length_pos_iff.2 hne
      have hst := Sm.lower_step hne
      have hw1 := Lib.decodeL_width l
      have hw2 := Sm.width_le hne
      have hr := Lib.decodeL_rune l
      have hdec := Tryz.utf8_DecodeRuneInString (bs l) wr (HT.out.ext hb).u8
      have hdg : Lib.decodeGo (bs l) = Lib.decodeL l := by
        unfold Lib.decodeGo
        rw [if_neg (by rw [bs_size]; omega)]
        rfl
      rw [hdg] at hdec
      obtain ⟨r, hrr⟩ : ∃ r, (Lib.decodeL l).1 = r := ⟨_, rfl⟩
      obtain ⟨n, hnn⟩ : ∃ n, (Lib.decodeL l).2 = n := ⟨_, rfl⟩
      rw [hrr] at hst hr hdec
      rw [hnn] at hst hw1 hw2 hdec
      have hlc : (L ++ Lib.encodeRune (Lib.toLowerU (r : Int))) ++ Sm.lower (l.drop n) = res := by rw [← hL.out, hst, List.append_assoc]; rfl
      have hll : L.length + (Lib.encodeRune (Lib.toLowerU (r : Int))).length ≤ 16000000 := by
        have := congrArg List.length hlc
        rw [List.length_append, List.length_append] at this
        omega
      have Hlc := Lib.hid hlc; have Hdec := Lib.hid hdec
      clear hlc hst hdg hrr hnn hdec
      have hd0 : decide ((0 : Int) < (l.length : Int)) = true := by simp; omega
      have hd1 : 0 < l.length := hpos
      have hlow := fun W hbb => Tryz.unicode_ToLower_laid (r : Int) W ((HT.out.ext hb).ext hbb).case
      obtain ⟨z, hz⟩ : ∃ z, Lib.toLowerU (r : Int) = z := ⟨_, rfl⟩
      rw [hz] at hlow Hlc hll
      have Hlow := Lib.hid hlow
      clear hlow hz
      have hcat : (L.length + (Lib.encodeRune z).length ≤ 9223372036854775807) = True := by simp; omega
      have henc := encode_bs z
      have hn0 : (0 : Int) ≤ (n : Int) := by omega
      have hn1 : (n : Int) ≤ (l.length : Int) := by omega
      go_wp2_with fail
      refine Hdec.out.mono ?_
      rintro e w1 ⟨rfl, hb1⟩
      go_wp2_with fail
      refine (Hlow.out w1 hb1).mono ?_
      rintro e w2 ⟨rfl, q, hq⟩
      have hb2 := (below2 hb hb1).trans (hq ▸ below_drewN' _ _ _)
      clear hq
      go_wp2
      go_roundw
      case rel => exact ⟨l.drop n, L ++ Lib.encodeRune z, by rw [List.take_of_length_le (by rw [List.length_drop]; exact Nat.le_refl _)], rfl, by rw [List.length_drop]; omega, Hlc, hb2⟩
      case measure => simp [strOf, bs]; omega
end Go.Proofs.YtfjpedgddgbelaaGreatDoor
/-
  strings.FieldsFuncSeq at stem.words' predicate: the iterator.
-/
namespace Go.Proofs.YtfjpedgddgbelaaGreatDoor
open Go.RowKit
set_option linter.unusedVariables false
/-- the tables lie, and no round turns them -/
def TabsS (S : Nat → Prop) (w : World) : Prop := ∃ w0, TabsU w0 ∧ Below w0.heap.size w0 w ∧ ∀ b, S b → w0.heap.size ≤ b
theorem TabsS.tabs {S : Nat → Prop} {w : World} (h : TabsS S w) : TabsU w := by
  obtain ⟨w0, h1, h2, _⟩ := h
  exact h1.ext h2
theorem TabsS.ext {S : Nat → Prop} {w w' : World} (h : TabsS S w) (hb : Below w.heap.size w w') : TabsS S w' := by
  obtain ⟨w0, h1, h2, h3⟩ := h
  exact ⟨w0, h1, h2.trans (hb.mono h2.size), h3⟩
theorem TabsS.chg {S S' : Nat → Prop} {w w' : World} (h : TabsS S w) (hc : Chg S S' w w') : TabsS S' w' := by
  obtain ⟨w0, h1, h2, h3⟩ := h
  refine ⟨w0, h1, ⟨hc.os.trans h2.os, hc.tape.trans h2.tape, hc.output.trans h2.output, Nat.le_trans h2.size hc.size, fun b hb => ?_⟩, fun b hb => ?_⟩
  · exact (hc.same b (by have := h2.size; omega) fun hS => by have := h3 b hS; omega).trans (h2.block b hb)
  · have h4 := h2.size
    rcases (hc.own b hb).2 with h | h
    · exact h3 b h
    · omega
theorem TabsU.s {S : Nat → Prop} {w : World} (h : TabsU w) (hS : ∀ b, S b → w.heap.size ≤ b) : TabsS S w := ⟨w, h, Below.refl _ _, hS⟩
theorem Blk.chg {S S' : Nat → Prop} {w w' : World} {g : Nat} {t : TypeId} {cs : Array Value} (h : Blk w g t cs) (hS : ¬ S g) (hc : Chg S S' w w') : Blk w' g t cs ∧ ¬ S' g :=
  ⟨h.keep (hc.same g h.lt hS), fun h' => (hc.own g h').2.elim hS fun h2 => by have := h.lt; omega⟩
/-- What the iterator reads: the text, the predicate, the tables. -/
def ffFP (B1 B2 : Nat) (s : Str) (S : Nat → Prop) (w : World) : Prop :=
  Blk w B1 9 #[.string (bs s)] ∧ ¬ S B1 ∧ Blk w B2 115 #[.func (.func 194) #[] #[]] ∧ ¬ S B2 ∧ TabsS S w
theorem ffFP.chg {B1 B2 : Nat} {s : Str} {S S' : Nat → Prop} {w w' : World} (h : ffFP B1 B2 s S w) (hc : Chg S S' w w') : ffFP B1 B2 s S' w' :=
  ⟨(h.1.chg h.2.1 hc).1, (h.1.chg h.2.1 hc).2, (h.2.2.1.chg h.2.2.2.1 hc).1, (h.2.2.1.chg h.2.2.2.1 hc).2, h.2.2.2.2.chg hc⟩
theorem ffFP.ext {B1 B2 : Nat} {s : Str} {S : Nat → Prop} {w w' : World} (h : ffFP B1 B2 s S w) (hb : Below w.heap.size w w') : ffFP B1 B2 s S w' :=
  ⟨h.1.ext hb, h.2.1, h.2.2.1.ext hb, h.2.2.2.1, h.2.2.2.2.ext hb⟩
/-- the word that is open: where it began -/
def openW (s : Str) (st : Option Nat) (pos : Nat) : Str := match st with | some a => (s.drop a).take (pos - a) | none => []
def startV (st : Option Nat) : Value := match st with | some a => .int .i64 (a : Int) | none => .int .i64 (-1)
theorem openW_grow (s : Str) (a pos n : Nat) (h : a ≤ pos) : openW s (some a) pos ++ (s.drop pos).take n = openW s (some a) (pos + n) := Lib.pieceU_grow s a pos n h
theorem openW_ne (s : Str) (a pos : Nat) (h : a < pos) (hp : pos ≤ s.length) : openW s (some a) pos ≠ [] := Lib.pieceU_ne s a pos h hp
def encW (x : Str) : Array Value := #[.string (bs x)]
theorem list_at {α : Type} {l : List α} {k : Nat} (hk : k ≤ l.length) {x : α} {t : List α} (h : l = l.take k ++ x :: t) : ∃ hk : k < l.length, l[k] = x ∧ l = l.take (k + 1) ++ t := by
  have hl : k < l.length := by
    have := congrArg List.length h
    rw [List.length_append, List.length_take, List.length_cons] at this
    omega
  have hx : l[k] = x := by
    have h1 := List.getElem_of_eq h hl
    rw [h1, List.getElem_append_right (by simp; omega)]
    simp [Nat.min_eq_left hk]
  refine ⟨hl, hx, ?_⟩
  rw [List.take_succ_eq_append_getElem hl, hx, List.append_assoc]
  exact h
set_option maxHeartbeats 4000000 in
theorem ff_iter (B1 B2 : Nat) (s : Str) (hs : s.length ≤ 4000000) :
    Iter Tryz.prog 240 #[.pointer (some ⟨B1, 0, none⟩), .pointer (some ⟨B2, 0, none⟩)] encW (Sm.rawWords s) (ffFP B1 B2 s) := by
  intro ll J Jx S W hFP hS hJ hJx hY h0
  refine callsIn_of_wp Tryz.func240 rfl trivial ?_ rfl
  simp only [Tryz.ntmps240, List.size_toArray, List.length_cons, List.length_nil, Nat.reduceAdd, Nat.reduceSub, Array.replicate_succ, Array.replicate_zero, List.push_toArray, List.append_toArray, List.nil_append, List.cons_append]
  have hF1 : Fence.wide.fn 76 := trivial
  have hF2 : Fence.wide.fn 194 := trivial
  have hF3 : Fence.wide.depth = none := rfl
  have hF4 : Fence.wide.round = none := rfl
  have HY := Lib.hid hY; clear hY
  have HJ := Lib.hid hJ; clear hJ
  have HJx := Lib.hid hJx; clear hJx
  have HS := Lib.hid hS; clear hS
  obtain ⟨R, hR⟩ : ∃ R, Sm.rawWords s = R := ⟨_, rfl⟩
  rw [hR] at HY ⊢
  have HR := Lib.hid hR; clear hR
  gi_wp2
  gi_loopw [4, 5] (fun st i wr => ∃ (k pos : Nat) (o : Option Nat) (T : Nat → Prop), i = .int .i64 (pos : Int) ∧ st = startV o ∧ J k T wr ∧ ffFP B1 B2 s T wr ∧ Hid (∀ b, T b → b < wr.heap.size) ∧ W.heap.size ≤ wr.heap.size ∧
      Hid (R = R.take k ++ Sm.wordsFrom (openW s o pos) (s.drop pos)) ∧ Hid (∀ a, o = some a → a < pos) ∧ pos ≤ s.length ∧ k ≤ R.length) (fun _ i _ => s.length - (intOf i).toNat)
  case atStart => exact ⟨0, 0, none, S, rfl, rfl, h0, hFP, HS, Nat.le_refl _, Lib.hid (by rw [← HR.out]; rfl), Lib.hid (fun a h => by cases h), by omega, by omega⟩
  case round =>
    obtain ⟨k, pos, o, T, rfl, rfl, hj, hfp, hT, hsz, hrec, ho, hp, hk⟩ := hrel
    obtain ⟨hc1, hz1, hs1⟩ := hfp.1.one
    obtain ⟨hc2, hz2, hs2⟩ := hfp.2.2.1.one
    by_cases hlt : pos < s.length
    · have hne := drop_ne hlt
      have hst := Sm.wordsFrom_step (cur := openW s o pos) hne
      have hw1 := Lib.decodeL_width (s.drop pos)
      have hw2 := Sm.width_le hne
      have hr := Lib.decodeL_rune (s.drop pos)
      rw [List.length_drop] at hw2
      rw [List.drop_drop] at hst
      have hdec := Tryz.utf8_DecodeRuneInString (bs (s.drop pos)) wr hfp.2.2.2.2.tabs.u8
      have hdg : Lib.decodeGo (bs (s.drop pos)) = Lib.decodeL (s.drop pos) := by
        unfold Lib.decodeGo
        rw [if_neg (by rw [bs_size, List.length_drop]; omega)]
        rfl
      rw [hdg] at hdec
      obtain ⟨r, hrr⟩ : ∃ r, (Lib.decodeL (s.drop pos)).1 = r := ⟨_, rfl⟩
      obtain ⟨n, hnn⟩ : ∃ n, (Lib.decodeL (s.drop pos)).2 = n := ⟨_, rfl⟩
      rw [hrr] at hst hr hdec
      rw [hnn] at hst hw1 hw2 hdec
      have hin := fun W hbb => notL_ok r hr W (hfp.2.2.2.2.tabs.ext hbb)
      obtain ⟨t, ht⟩ : ∃ t, Sm.isL r = t := ⟨_, rfl⟩
      rw [ht] at hin hst
      rw [hst] at hrec
      obtain ⟨q, hq⟩ : ∃ q, (s.drop pos).take (s.length - pos) = q := ⟨_, rfl⟩
      have hq2 : s.drop pos = q := by rw [← hq, List.take_of_length_le (by rw [List.length_drop]; exact Nat.le_refl _)]
      rw [hq2] at hdec
      have Hdec := Lib.hid hdec; have Hin := Lib.hid hin; have Hq2 := Lib.hid hq2
      clear hdec hin hst hdg hrr hnn ht hq2 hne
      have hp0 : (0 : Int) ≤ (pos : Int) := by omega
      have hp1 : (pos : Int) ≤ (s.length : Int) := by omega
      have hp2 : (pos : Int) < (s.length : Int) := by omega
      rcases o with _ | a
      all_goals
        dsimp only [startV]
        gi_wp2_with fail
        refine (callsIn_wide.2 Hdec.out).mono ?_
        rintro e w1 ⟨rfl, hb1⟩
        obtain ⟨hc3, hz3, hs3⟩ := (hfp.2.2.1.ext hb1).one
        gi_wp2_with fail
        refine (callsIn_wide.2 (Hin.out w1 hb1)).mono ?_
        rintro e w2 ⟨rfl, hb2⟩
        have hb12 := below2 hb1 hb2
        have hfp2 := hfp.ext hb12
        have hj2 := HJ.out _ _ _ _ hj (Kept.of_below hb12)
        have hsz2 : W.heap.size ≤ w2.heap.size := Nat.le_trans hsz hb12.size
        have hT2 : Hid (∀ b, T b → b < w2.heap.size) := Lib.hid fun b hb => by have := hT.out b hb; have := hb12.size; omega
        clear hb1 hb2 hc3 hz3 hs3 Hdec Hin hfp hj hsz hT hc1 hz1 hs1 hc2 hz2 hs2
      · cases t with
        | true =>
          gi_wp2
          go_roundw
          case rel => exact ⟨k, pos + n, some pos, T, by go_num, rfl, hj2, hfp2, hT2, hsz2, Lib.hid (by
            have h := hrec.out
            have e : openW s none pos ++ (s.drop pos).take n = openW s (some pos) (pos + n) := by simp [openW]
            rw [e] at h
            simpa using h), Lib.hid (fun a h => by cases h; omega), by omega, hk⟩
          case measure => simp [intOf]; omega
        | false =>
          gi_wp2
          go_roundw
          case rel => exact ⟨k, pos + n, none, T, by go_num, rfl, hj2, hfp2, hT2, hsz2, Lib.hid (by
            have h := hrec.out
            have e0 : openW s none pos = [] := rfl
            have e1 : openW s none (pos + n) = [] := rfl
            rw [e0] at h
            rw [e1]
            simpa using h), Lib.hid (fun a h => by cases h), by omega, hk⟩
          case measure => simp [intOf]; omega
      · have hap := ho.out a rfl
        cases t with
        | true =>
          have ha0 : decide ((a : Int) < 0) = false := by simp
          gi_wp2
          go_roundw
          case rel => exact ⟨k, pos + n, some a, T, by go_num, rfl, hj2, hfp2, hT2, hsz2, Lib.hid (by
            have h := hrec.out
            rw [openW_grow s a pos n (by omega)] at h
            simpa using h), Lib.hid (fun b h => by cases h; omega), by omega, hk⟩
          case measure => simp [intOf]; omega
        | false =>
          have hon := openW_ne s a pos hap hp
          have h := hrec.out
          simp only [Bool.false_eq_true, if_false, if_neg hon, List.singleton_append] at h
          obtain ⟨hk', hx, hr'⟩ := list_at hk h
          obtain ⟨x, hxx⟩ : ∃ x, (s.drop a).take (pos - a) = x := ⟨_, rfl⟩
          have hy := HY.out k hk' T w2 hj2 hsz2
          have hox : openW s (some a) pos = x := hxx
          rw [hx, hox] at hy
          have Hx := Lib.hid hx; have Hr' := Lib.hid hr'
          clear hx hr' h hon hox hrec
          obtain ⟨hc1, hz1, hs1⟩ := hfp2.1.one
          have ha1 : (0 : Int) ≤ (a : Int) := by omega
          have ha2 : (a : Int) ≤ (pos : Int) := by omega
          have ha3 : decide ((0 : Int) ≤ (a : Int)) = true := by simp
          obtain ⟨fn, tmps, assign, body, hyy, hRR⟩ := hy
          dsimp only [encW] at hyy
          gi_wp2_with fail
          refine hRR.mono ?_
          rintro e w4 ⟨T', hchg, hor4⟩
          obtain ⟨tt, rfl⟩ : ∃ tt, e = .returned (.bool tt) := hor4.elim (fun h => ⟨_, h.1⟩) (fun h => ⟨_, h.1⟩)
          have Hor4 := Lib.hid hor4
          clear hor4 hyy hRR hc1 hz1 hs1
          have hfp4 := hfp2.chg hchg
          have hsz4 : W.heap.size ≤ w4.heap.size := Nat.le_trans hsz2 hchg.size
          cases tt with
          | true =>
            have hj4 : J (k + 1) T' w4 := Hor4.out.elim (fun h => h.2) (fun h => by cases h.1)
            gi_wp2
            go_roundw
            case rel =>
              exact ⟨k + 1, pos + n, none, T', by go_num, rfl, hj4, hfp4, Lib.hid (fun b hb => (hchg.own b hb).1), hsz4, Hr', Lib.hid (fun a h => by cases h), by omega, hk'⟩
            case measure => simp [intOf]; omega
          | false =>
            have hx4 : Jx (k + 1) T' w4 := Hor4.out.elim (fun h => by cases h.1) (fun h => h.2)
            gi_wp2
            exact bodyPost_ret (results_none rfl _ _ _) rfl ⟨⟨_, rfl⟩, .inr ⟨k + 1, T', hx4⟩⟩
    · obtain rfl : pos = s.length := by omega
      rw [List.drop_length, Sm.wordsFrom_nil] at hrec
      rcases o with _ | a
      · have hkk : k = R.length := by
          have h := congrArg List.length hrec.out
          have e0 : openW s none s.length = [] := rfl
          rw [e0, if_pos rfl, List.append_nil, List.length_take] at h
          omega
        have Hkk := Lib.hid hkk
        clear hkk hrec
        dsimp only [startV]
        gi_wp2
        exact bodyPost_end (results_none rfl _ _ _) rfl ⟨⟨_, rfl⟩, .inl ⟨T, by rw [← Hkk.out]; exact hj⟩⟩
      · have hap := ho.out a rfl
        have hon := openW_ne s a s.length hap (Nat.le_refl _)
        have h := hrec.out
        rw [if_neg hon] at h
        obtain ⟨hk', hx, hr'⟩ := list_at hk h
        obtain ⟨x, hxx⟩ : ∃ x, (s.drop a).take (s.length - a) = x := ⟨_, rfl⟩
        have hy := HY.out k hk' T wr hj hsz
        have hox : openW s (some a) s.length = x := hxx
        rw [hx, hox] at hy
        have hkk : k + 1 = R.length := by
          have h := congrArg List.length hr'
          rw [List.append_nil, List.length_take] at h
          omega
        have Hkk := Lib.hid hkk
        clear hx hr' h hon hox hrec hkk
        have ha1 : (0 : Int) ≤ (a : Int) := by omega
        have ha2 : (a : Int) ≤ (s.length : Int) := by omega
        have ha3 : decide ((0 : Int) ≤ (a : Int)) = true := by simp
        obtain ⟨fn, tmps, assign, body, hyy, hRR⟩ := hy
        dsimp only [encW] at hyy
        dsimp only [startV]
        gi_wp2_with fail
        refine hRR.mono ?_
        rintro e w4 ⟨T', hchg, hor4⟩
        obtain ⟨tt, rfl⟩ : ∃ tt, e = .returned (.bool tt) := hor4.elim (fun h => ⟨_, h.1⟩) (fun h => ⟨_, h.1⟩)
        have Hor4 := Lib.hid hor4
        clear hor4 hyy hRR hc1 hz1 hs1
        gi_wp2
        refine bodyPost_end (results_none rfl _ _ _) rfl ⟨⟨_, rfl⟩, ?_⟩
        rcases Hor4.out with h | h
        · exact .inl ⟨T', by rw [← Hkk.out]; exact h.2⟩
        · exact .inr ⟨k + 1, T', h.2⟩
end Go.Proofs.YtfjpedgddgbelaaGreatDoor
/-
  Lists of texts: their type's numbers; Texts.
-/
namespace Go.Proofs.YtfjpedgddgbelaaGreatDoor
open Go.RowKit
theorem TStrs : SlT Tryz.prog 1 59 9 16 := SlT.mk' Tryz.underlying59 (by kernel_rfl : (Tryz.prog.info? 9).map (fun i => (i.zero, i.size, i.bytes)) = some (some (.string ⟨#[]⟩), 1, 16)) rfl
theorem oneStr : ∀ i z, Tryz.prog.info? 9 = some i → i.zero = some z → ∀ u ∈ z.cells.toList, u.oneCell' = true := by
  intro i z hi hz
  have h : (Tryz.prog.info? 9).map (fun i => i.zero) = some (some (.string ⟨#[]⟩)) := by kernel_rfl
  rw [hi] at h
  simp only [Option.map_some, Option.some.injEq] at h
  rw [hz] at h
  injection h with h
  subst h
  decide
theorem take_get {α : Type} (l : List α) (k : Nat) (h : k < l.length) : l.take (k + 1) = l.take k ++ [l[k]] := List.take_succ_eq_append_getElem h

theorem Own.flat {M M' : Nat → Prop} {w w' : World} {B : Nat} {e : TypeId} {v : Value} {l : List Str} (h : Own strC M w B e v l) (hk : ∀ b, v.ownBlock = some b → w'.heap[b]? = w.heap[b]?) : Own strC M' w' B e v l := by
  obtain ⟨xs, ho, he⟩ := h
  refine ⟨xs, ⟨ho.1, ?_⟩, ⟨he.1, fun i hi => he.2 i hi⟩⟩
  rcases ho.2 with hn | ⟨g, cap, cur, rfl, hb, hg, rest⟩
  · exact .inl hn
  · exact .inr ⟨g, cap, cur, rfl, hb, (hk g rfl).trans hg, rest⟩
def Apart (u v : Value) : Prop := ∀ b, u.ownBlock = some b → v.ownBlock ≠ some b
end Go.Proofs.YtfjpedgddgbelaaGreatDoor
/-
  stem: a rule applied.
-/
namespace Go.Proofs.YtfjpedgddgbelaaGreatDoor
open Go.RowKit
set_option linter.unusedVariables false

set_option maxHeartbeats 1000000 in
theorem apply_ok (M : Nat → Prop) (r : Sm.Rule) (v : Value) (s : Str) (w : World) (hv : SlR strC M w v r.bars) (hs : s.length ≤ 4000000) (hto : r.to.length ≤ 10) :
    Calls Tryz.prog 162 #[.agg #[.string (bs r.ending), .string (bs r.to), v], .string (bs s)] w fun e w' =>
      e = .returned (.tuple #[.string (bs (Sm.applied r s)), .bool (Sm.fits r s)]) ∧ Below w.heap.size w w' := by
  obtain ⟨A, c, rfl, _, hcm⟩ := hv.form
  have hn := hv.len_le
  unfold maxLen at hn
  have hc := Tryz.strings_CutSuffix (bs s) (bs r.ending)
  go_enter Tryz.func162, Tryz.ntmps162
  have hbw := (Below.refl w.heap.size w).alloc (Nat.le_refl _) (.cells #[.string (bs r.ending), .string (bs r.to), .slice A r.bars.length c] 190)
  have k1 := Blk.new w 190 #[.string (bs r.ending), .string (bs r.to), .slice A r.bars.length c]
  replace hv := hv.ext hbw
  obtain ⟨p10, p11, p12, _⟩ := k1.three
  go_wp2_with fail
  refine (hc _ (by rw [bs_size]; omega)).mono ?_
  rintro e w1 ⟨rfl, hw1⟩
  rw [bs_toList, bs_toList]
  rw [← hw1] at hbw k1 hv p10 p11 p12
  clear hc hw1 k1
  show _
  have hfr : (⟨(Lib.trimSuffix s r.ending).toArray⟩ : ByteArray) = bs (Lib.trimSuffix s r.ending) := rfl
  rw [hfr]
  clear hfr
  obtain ⟨ok, hok⟩ : ∃ b, Lib.hasSuffix s r.ending = b := ⟨_, rfl⟩
  rw [hok]
  cases ok with
  | false =>
    have hf : Sm.fits r s = false := by simp [Sm.fits, hok]
    have Hf := Lib.hid hf
    clear hf hok
    go_wp2
    all_goals refine bodyPost_ret (v := .tuple #[.string (bs (s)), .bool false]) (by simp [results, Tryz.results162, go_sem]) rfl ?_
    all_goals exact ⟨by rw [Hf.out, Sm.applied_not Hf.out], hbw⟩
  | true =>
    have htr : Lib.trimSuffix s r.ending = s.take (s.length - r.ending.length) := by unfold Lib.trimSuffix; rw [if_pos hok]
    have hle : r.ending.length ≤ s.length := by
      unfold Lib.hasSuffix at hok
      exact (List.isSuffixOf_iff_suffix.1 hok).length_le
    obtain ⟨fr, hfr⟩ : ∃ fr, Lib.trimSuffix s r.ending = fr := ⟨_, rfl⟩
    rw [hfr]
    have hfl : fr.length = s.length - r.ending.length := by rw [← hfr, htr, List.length_take]; omega
    by_cases h3 : r.ending.length + 3 ≤ s.length
    · have hlt : ((fr.length : Int) < 3) = False := by simp; omega
      have Hok := Lib.hid hok; have Htr := Lib.hid htr; have Hfr := Lib.hid hfr
      clear hok htr hfr
      go_wp2
      go_loop [28] (fun i => ∃ k : Nat, k ≤ r.bars.length ∧ i = .int .i64 k ∧ Hid (∀ (j : Nat) (hj : j < r.bars.length), j < k → Lib.hasSuffix s r.bars[j] = false)) (fun i => r.bars.length - (intOf i).toNat)
      case atStart => exact ⟨0, Nat.zero_le _, rfl, Lib.hid fun j _ h => absurd h (by omega)⟩
      case round =>
        obtain ⟨k, hk, rfl, hpre⟩ := hrel
        by_cases hlk : k < r.bars.length
        · obtain ⟨b, off, rfl, _, _, hcell, _⟩ := hv.strAt hlk
          have hc := Tryz.strings_HasSuffix (bs s) (bs r.bars[k])
          obtain ⟨x, hx⟩ : ∃ x, x = r.bars[k] := ⟨_, rfl⟩
          rw [← hx] at hcell hc
          have Hx := Lib.hid hx
          clear hx
          go_wp2_with fail
          refine (hc _ (by rw [bs_size]; omega)).mono ?_
          rintro e w2 ⟨rfl, rfl⟩
          rw [bs_toList, bs_toList]
          clear hc
          cases ht : Lib.hasSuffix s x with
          | true =>
            go_wp2
            refine bodyPost_ret (v := .tuple #[.string (bs (s)), .bool false]) (by simp [results, Tryz.results162, go_sem]) rfl ?_
            have hf : Sm.fits r s = false := by
              have := any_true r.bars (Lib.hasSuffix s) k hlk (by rw [← Hx.out]; exact ht)
              simp [Sm.fits, this]
            exact ⟨by rw [hf, Sm.applied_not hf], hbw⟩
          | false =>
            go_wp2
            go_round
            case rel => exact ⟨k + 1, by omega, by go_num, Lib.hid fun j hj hjk => by
              by_cases e : j = k
              · subst e; rw [← Hx.out]; exact ht
              · exact hpre.out j hj (by omega)⟩
            case measure => simp [intOf]; omega
        · have hcat : (fr.length + r.to.length ≤ 9223372036854775807) = True := by simp; omega
          go_wp2
          refine bodyPost_ret (v := .tuple #[.string (bs (fr ++ r.to)), .bool true]) (by simp [results, Tryz.results162, go_sem]) rfl ?_
          have hf : Sm.fits r s = true := by
            have := any_false r.bars (Lib.hasSuffix s) fun i hi => hpre.out i hi (by omega)
            simp [Sm.fits, this, Hok.out, h3]
          refine ⟨?_, hbw⟩
          rw [hf, Sm.applied_fits hf, Sm.cut, ← Htr.out, Hfr.out]
    · have hlt : ((fr.length : Int) < 3) = True := by simp; omega
      have hf : Sm.fits r s = false := by simp [Sm.fits]; intro _ h; omega
      have Hf := Lib.hid hf
      clear hf hok
      go_wp2
      all_goals refine bodyPost_ret (v := .tuple #[.string (bs (s)), .bool false]) (by simp [results, Tryz.results162, go_sem]) rfl ?_
      all_goals exact ⟨by rw [Hf.out, Sm.applied_not Hf.out], hbw⟩
end Go.Proofs.YtfjpedgddgbelaaGreatDoor
/-
  stem: a step (printed by gen/smstep.py).
-/
namespace Go.Proofs.YtfjpedgddgbelaaGreatDoor
open Go.RowKit
set_option linter.unusedVariables false
theorem lit_els (M : Nat → Prop) (w : World) : ∀ l : List Str, (∀ s ∈ l, s.length ≤ maxLen) → Els strC M w (l.map fun s => .string (bs s)) l
  | [], _ => Els.nil _ _ _
  | s :: l, h => (Els.single (C := strC) (cs := [.string (bs s)]) ⟨rfl, h s (by simp)⟩).append (lit_els M w l fun x hx => h x (by simp [hx]))
theorem lit_row (w : World) (l : List Str) (h : ∀ s ∈ l, s.length ≤ 1000) (hn : l.length ≤ 1000) : SlR strC M0 (w.alloc (.cells (l.map fun s => Value.string (bs s)).toArray 9)) (.slice (some ⟨w.heap.size, 0, none⟩) l.length l.length) l :=
  (Own.built (M := M0) (B := w.heap.size) 9 (lit_els _ w l fun s hs => by have := h s hs; unfold maxLen; omega) (Nat.le_refl _) (by unfold maxLen; omega)).read0
theorem rule_cells {w : World} {b B0 : Nat} (kB : Blk w b 190 #[.string ⟨#[105, 101, 115]⟩, .string ⟨#[105]⟩, .slice none 0 0, .string ⟨#[115, 115, 101, 115]⟩, .string ⟨#[115, 115]⟩, .slice none 0 0, .string ⟨#[110, 101, 115, 115]⟩, .string ⟨#[]⟩, .slice none 0 0, .string ⟨#[109, 101, 110, 116]⟩, .string ⟨#[]⟩, .slice none 0 0, .string ⟨#[105, 110, 103]⟩, .string ⟨#[]⟩, .slice none 0 0, .string ⟨#[101, 100, 108, 121]⟩, .string ⟨#[]⟩, .slice none 0 0, .string ⟨#[101, 100]⟩, .string ⟨#[]⟩, .slice none 0 0, .string ⟨#[108, 121]⟩, .string ⟨#[]⟩, .slice none 0 0, .string ⟨#[115]⟩, .string ⟨#[]⟩, .slice (some ⟨B0, 0, none⟩) 3 3, .string ⟨#[121]⟩, .string ⟨#[105]⟩, .slice none 0 0]) (k : Nat) (hk : k < 10) : ∃ (r : Sm.Rule) (v : Value), Sm.rules.drop k = r :: Sm.rules.drop (k + 1) ∧
    w.cell? ⟨b, k * 3, none⟩ = some (.string (bs r.ending)) ∧ w.cell? ⟨b, k * 3 + 1, none⟩ = some (.string (bs r.to)) ∧ w.cell? ⟨b, k * 3 + 2, none⟩ = some v ∧
    (v = .slice none 0 0 ∧ r.bars = [] ∨ v = .slice (some ⟨B0, 0, none⟩) 3 3 ∧ r.bars = [[115, 115], [117, 115], [105, 115]]) ∧ r.to.length ≤ 10 := by
  match k, hk with
  | 0, _ => exact ⟨_, _, rfl, kB.cell 0, kB.cell 1, kB.cell 2, .inl ⟨rfl, rfl⟩, by decide⟩
  | 1, _ => exact ⟨_, _, rfl, kB.cell 3, kB.cell 4, kB.cell 5, .inl ⟨rfl, rfl⟩, by decide⟩
  | 2, _ => exact ⟨_, _, rfl, kB.cell 6, kB.cell 7, kB.cell 8, .inl ⟨rfl, rfl⟩, by decide⟩
  | 3, _ => exact ⟨_, _, rfl, kB.cell 9, kB.cell 10, kB.cell 11, .inl ⟨rfl, rfl⟩, by decide⟩
  | 4, _ => exact ⟨_, _, rfl, kB.cell 12, kB.cell 13, kB.cell 14, .inl ⟨rfl, rfl⟩, by decide⟩
  | 5, _ => exact ⟨_, _, rfl, kB.cell 15, kB.cell 16, kB.cell 17, .inl ⟨rfl, rfl⟩, by decide⟩
  | 6, _ => exact ⟨_, _, rfl, kB.cell 18, kB.cell 19, kB.cell 20, .inl ⟨rfl, rfl⟩, by decide⟩
  | 7, _ => exact ⟨_, _, rfl, kB.cell 21, kB.cell 22, kB.cell 23, .inl ⟨rfl, rfl⟩, by decide⟩
  | 8, _ => exact ⟨_, _, rfl, kB.cell 24, kB.cell 25, kB.cell 26, .inr ⟨rfl, rfl⟩, by decide⟩
  | 9, _ => exact ⟨_, _, rfl, kB.cell 27, kB.cell 28, kB.cell 29, .inl ⟨rfl, rfl⟩, by decide⟩
theorem Sm.twice_of {s : List UInt8} {x y : UInt8} (h4 : 4 ≤ s.length) (hx : s[s.length - 1] = x) (hy : s[s.length - 2] = y) : Sm.twice s = ((x == y) && !(Sm.vowels.any (· == x))) := by
  have e1 : s[s.length - 1]? = some x := by rw [List.getElem?_eq_getElem (by omega), hx]
  have e2 : s[s.length - 2]? = some y := by rw [List.getElem?_eq_getElem (by omega), hy]
  simp [Sm.twice, e1, e2, h4, BEq.comm]
theorem Sm.index_hit {x : UInt8} (h : Sm.vowels.any (· == x) = true) : decide (Lib.indexByte [97, 101, 105, 111, 117, 108, 115, 122] x < 0) = false := by
  simp only [Sm.vowels, List.any_cons, List.any_nil, Bool.or_eq_true, beq_iff_eq, Bool.or_false] at h
  rcases h with h | h | h | h | h | h | h | h <;> (subst h; rfl)
theorem Sm.index_miss {x : UInt8} (h : Sm.vowels.any (· == x) = false) : decide (Lib.indexByte [97, 101, 105, 111, 117, 108, 115, 122] x < 0) = true := by
  simp only [Sm.vowels, List.any_cons, List.any_nil, Bool.or_eq_false_iff, beq_eq_false_iff_ne, Bool.or_false] at h
  simp [Lib.indexByte, h, Ne.symm]
set_option maxRecDepth 100000 in
set_option maxHeartbeats 8000000 in
theorem step_ok (s : Str) (w : World) (hs : s.length ≤ 4000000) :
    Calls Tryz.prog 120 #[.string (bs s)] w fun e w' => e = .returned (.string (bs (Sm.step s))) ∧ Below w.heap.size w w' := by
  have hbar : SlR strC M0 (w.alloc (.cells #[.string ⟨#[115, 115]⟩, .string ⟨#[117, 115]⟩, .string ⟨#[105, 115]⟩] 9)) (.slice (some ⟨w.heap.size, 0, none⟩) 3 3) [[115, 115], [117, 115], [105, 115]] := lit_row w [[115, 115], [117, 115], [105, 115]] (by decide) (by decide)
  obtain ⟨res, hres⟩ : ∃ r, Sm.step s = r := ⟨_, rfl⟩
  rw [hres]
  have Hres := Lib.hid hres
  clear hres
  have hbw := ((Below.refl w.heap.size w).alloc (Nat.le_refl _) (.cells #[.string ⟨#[115, 115]⟩, .string ⟨#[117, 115]⟩, .string ⟨#[105, 115]⟩] 9)).alloc (by simp) (.cells #[.string ⟨#[105, 101, 115]⟩, .string ⟨#[105]⟩, .slice none 0 0, .string ⟨#[115, 115, 101, 115]⟩, .string ⟨#[115, 115]⟩, .slice none 0 0, .string ⟨#[110, 101, 115, 115]⟩, .string ⟨#[]⟩, .slice none 0 0, .string ⟨#[109, 101, 110, 116]⟩, .string ⟨#[]⟩, .slice none 0 0, .string ⟨#[105, 110, 103]⟩, .string ⟨#[]⟩, .slice none 0 0, .string ⟨#[101, 100, 108, 121]⟩, .string ⟨#[]⟩, .slice none 0 0, .string ⟨#[101, 100]⟩, .string ⟨#[]⟩, .slice none 0 0, .string ⟨#[108, 121]⟩, .string ⟨#[]⟩, .slice none 0 0, .string ⟨#[115]⟩, .string ⟨#[]⟩, .slice (some ⟨w.heap.size, 0, none⟩) 3 3, .string ⟨#[121]⟩, .string ⟨#[105]⟩, .slice none 0 0] 190)
  have kB := Blk.new (w.alloc (.cells #[.string ⟨#[115, 115]⟩, .string ⟨#[117, 115]⟩, .string ⟨#[105, 115]⟩] 9)) 190 #[.string ⟨#[105, 101, 115]⟩, .string ⟨#[105]⟩, .slice none 0 0, .string ⟨#[115, 115, 101, 115]⟩, .string ⟨#[115, 115]⟩, .slice none 0 0, .string ⟨#[110, 101, 115, 115]⟩, .string ⟨#[]⟩, .slice none 0 0, .string ⟨#[109, 101, 110, 116]⟩, .string ⟨#[]⟩, .slice none 0 0, .string ⟨#[105, 110, 103]⟩, .string ⟨#[]⟩, .slice none 0 0, .string ⟨#[101, 100, 108, 121]⟩, .string ⟨#[]⟩, .slice none 0 0, .string ⟨#[101, 100]⟩, .string ⟨#[]⟩, .slice none 0 0, .string ⟨#[108, 121]⟩, .string ⟨#[]⟩, .slice none 0 0, .string ⟨#[115]⟩, .string ⟨#[]⟩, .slice (some ⟨w.heap.size, 0, none⟩) 3 3, .string ⟨#[121]⟩, .string ⟨#[105]⟩, .slice none 0 0]
  rw [show ∀ o, (w.alloc o).heap.size = w.heap.size + 1 from fun o => by simp] at kB
  replace hbar := hbar.ext (w' := _) ((Below.refl _ _).alloc (Nat.le_refl _) (.cells #[.string ⟨#[105, 101, 115]⟩, .string ⟨#[105]⟩, .slice none 0 0, .string ⟨#[115, 115, 101, 115]⟩, .string ⟨#[115, 115]⟩, .slice none 0 0, .string ⟨#[110, 101, 115, 115]⟩, .string ⟨#[]⟩, .slice none 0 0, .string ⟨#[109, 101, 110, 116]⟩, .string ⟨#[]⟩, .slice none 0 0, .string ⟨#[105, 110, 103]⟩, .string ⟨#[]⟩, .slice none 0 0, .string ⟨#[101, 100, 108, 121]⟩, .string ⟨#[]⟩, .slice none 0 0, .string ⟨#[101, 100]⟩, .string ⟨#[]⟩, .slice none 0 0, .string ⟨#[108, 121]⟩, .string ⟨#[]⟩, .slice none 0 0, .string ⟨#[115]⟩, .string ⟨#[]⟩, .slice (some ⟨w.heap.size, 0, none⟩) 3 3, .string ⟨#[121]⟩, .string ⟨#[105]⟩, .slice none 0 0] 190))
  go_enter Tryz.func120, Tryz.ntmps120
  go_wp2_with fail
  generalize hw1 : (w.alloc _).alloc _ = w1 at hbw kB hbar ⊢
  have Hw1 := Lib.hid hw1; clear hw1
  go_loopw [21] (fun i wr => ∃ k : Nat, k ≤ 10 ∧ i = .int .i64 k ∧ Hid (Sm.stepOf (Sm.rules.drop k) s = res) ∧ Below w1.heap.size w1 wr) (fun i _ => 10 - (intOf i).toNat)
  case atStart => exact ⟨0, Nat.zero_le _, rfl, Lib.hid Hres.out, Below.refl _ _⟩
  case round =>
    obtain ⟨k, hk, rfl, hst, hb⟩ := hrel
    by_cases hlt : k < 10
    · obtain ⟨r, v, hdr, c0, c1, c2, hvv, hto⟩ := rule_cells (kB.ext hb) k hlt
      have hbar1 := hbar.ext (hb.mono (Nat.le_refl _))
      have Hk := Lib.hid kB
      clear kB hbar
      have hsl : SlR strC M0 wr v r.bars := by
        rcases hvv with ⟨rfl, e⟩ | ⟨rfl, e⟩
        · rw [e]; exact SlR.nil _ _ _
        · rw [e]; exact hbar1
      clear hbar1
      have hsz := hb.size
      obtain ⟨A, n, c, rfl⟩ : ∃ A n c, v = .slice A n c := by
        rcases hvv with ⟨rfl, e⟩ | ⟨rfl, e⟩
        · exact ⟨_, _, _, rfl⟩
        · exact ⟨_, _, _, rfl⟩
      clear hvv
      have hba := (Below.refl w1.heap.size wr).alloc hsz (.cells #[.string (bs r.ending), .string (bs r.to), .slice A n c] 190)
      have hcall := apply_ok M0 r (.slice A n c) s _ (hsl.ext ((Below.refl wr.heap.size wr).alloc (Nat.le_refl _) (.cells #[.string (bs r.ending), .string (bs r.to), .slice A n c] 190))) hs hto
      clear hsl
      go_wp2_with fail
      refine hcall.mono ?_
      rintro e w2 ⟨rfl, hq⟩
      clear hcall
      have hb2 := hb.trans (hba.trans (hq.mono (Nat.le_trans hsz hba.size)))
      have hall := hbw.trans (hb2.mono hbw.size)
      clear hq hba c0 c1 c2
      obtain ⟨t, ht⟩ : ∃ t, Sm.fits r s = t := ⟨_, rfl⟩
      obtain ⟨ap, hap⟩ : ∃ a, Sm.applied r s = a := ⟨_, rfl⟩
      rw [ht, hap]
      have hres : res = if t then ap else Sm.stepOf (Sm.rules.drop (k + 1)) s := by
        rw [← hst.out, hdr, Sm.stepOf, ht, ← hap]
        cases t with
        | true => rw [if_pos rfl, if_pos rfl, Sm.applied_fits ht]
        | false => rw [if_neg (by simp), if_neg (by simp)]
      have Hap := Lib.hid hap; have Ht := Lib.hid ht; have Hdr := Lib.hid hdr; have Hr := Lib.hid hres
      clear hap ht hdr hres
      cases t with
      | true =>
        go_wp2
        go_ret
        exact ⟨by rw [Hr.out]; rfl, hall⟩
      | false =>
        go_wp2
        go_round
        case rel => exact ⟨k + 1, by omega, by go_num, Lib.hid (by rw [Hr.out]; rfl), hb2⟩
        case measure => simp [intOf]; omega
    · obtain rfl : k = 10 := by omega
      have htl : res = Sm.tail s := hst.out.symm
      have Htl := Lib.hid htl
      have hall := hbw.trans (hb.mono hbw.size)
      clear htl hst kB hbar hbw hb
      have hib := fun (c : UInt8) (W : World) => Tryz.strings_IndexByte (bs [97, 101, 105, 111, 117, 108, 115, 122]) (c.toNat : Int) W
      by_cases h4 : 4 ≤ s.length
      · have hd4 : decide (4 ≤ (s.length : Int)) = true := by simp; omega
        have hi1 : IntKind.i64.wrap ((s.length : Int) - 1) = (s.length : Int) - 1 := IntWalk.i64_in _ (by omega)
        have hi2 : IntKind.i64.wrap ((s.length : Int) - 2) = (s.length : Int) - 2 := IntWalk.i64_in _ (by omega)
        have hj1 : (0 : Int) ≤ (s.length : Int) - 1 := by omega
        have hj2 : (0 : Int) ≤ (s.length : Int) - 2 := by omega
        have hk1 : (1 : Int) ≤ (s.length : Int) := by omega
        have hk2 : (2 : Int) ≤ (s.length : Int) := by omega
        have hk3 : 1 ≤ s.length := by omega
        have hk4 : 2 ≤ s.length := by omega
        have hj3 : (s.length : Int) - 1 < (s.length : Int) := by omega
        have hj4 : (s.length : Int) - 2 < (s.length : Int) := by omega
        obtain ⟨x, hx⟩ : ∃ x, s[s.length - 1] = x := ⟨_, rfl⟩
        obtain ⟨y, hy⟩ : ∃ y, s[s.length - 2] = y := ⟨_, rfl⟩
        have hib := fun (n : Nat) => hib x (wr.drewN n)
        rw [bs_toList, show ((x.toNat : Int)).toNat.toUInt8 = x from by simp] at hib
        have htw := Sm.twice_of (s := s) h4 hx hy
        cases ht : ((x.toNat : Int) == (y.toNat : Int)) with
        | false =>
          have hxy : (x == y) = false := by
            rw [beq_eq_false_iff_ne] at ht ⊢
            exact fun e => ht (by rw [e])
          have hq : Sm.tail s = s := by rw [Sm.tail, htw, hxy]; rfl
          have Hq := Lib.hid hq
          clear hq hib htw hxy
          go_wp2
          go_quiet (fail)
          go_wp2
          go_ret
          exact ⟨ret_str (by rw [Htl.out, Hq.out]), hall.trans (below_drewN' _ _ _)⟩
        | true =>
          have hxy : (x == y) = true := by
            rw [beq_iff_eq] at ht ⊢
            exact UInt8.toNat_inj.1 (by omega)
          rw [hxy] at htw
          cases hv : (Sm.vowels.any (· == x)) with
          | true =>
            have hlt : decide (Lib.indexByte [97, 101, 105, 111, 117, 108, 115, 122] x < 0) = false := Sm.index_hit hv
            have hq : Sm.tail s = s := by rw [Sm.tail, htw, hv]; rfl
            obtain ⟨n, hn⟩ : ∃ n, Lib.indexByte [97, 101, 105, 111, 117, 108, 115, 122] x = n := ⟨_, rfl⟩
            rw [hn] at hlt hib
            have Hq := Lib.hid hq; have Hib := Lib.hid hib
            clear hq htw hxy hn hv hib
            go_wp2
            go_quiet ((go_at_call 163; exact Calls.quiet_of_same (Hib.out _)))
            go_wp2
            go_ret
            exact ⟨ret_str (by rw [Htl.out, Hq.out]), hall.trans (below_drewN' _ _ _)⟩
          | false =>
            have hlt : decide (Lib.indexByte [97, 101, 105, 111, 117, 108, 115, 122] x < 0) = true := Sm.index_miss hv
            have hq : Sm.tail s = s.take (s.length - 1) := by rw [Sm.tail, htw, hv]; rfl
            obtain ⟨n, hn⟩ : ∃ n, Lib.indexByte [97, 101, 105, 111, 117, 108, 115, 122] x = n := ⟨_, rfl⟩
            rw [hn] at hlt hib
            have Hq := Lib.hid hq; have Hib := Lib.hid hib
            clear hq htw hxy hn hv hib
            go_wp2
            go_quiet ((go_at_call 163; exact Calls.quiet_of_same (Hib.out _)))
            go_wp2
            go_ret
            exact ⟨ret_str (by rw [Htl.out, Hq.out]), hall.trans (below_drewN' _ _ _)⟩
      · have hd4 : decide (4 ≤ (s.length : Int)) = false := by simp; omega
        have hq : Sm.tail s = s := by simp [Sm.tail, Sm.twice, h4]
        have Hq := Lib.hid hq
        clear hq hib
        go_wp2
        go_quiet (fail)
        go_wp2
        go_ret
        exact ⟨ret_str (by rw [Htl.out, Hq.out]), hall.trans (below_drewN' _ _ _)⟩
end Go.Proofs.YtfjpedgddgbelaaGreatDoor

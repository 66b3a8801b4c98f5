/-
  Contracts and plain facts, one after another: Searching: what a query finds; plain; query.measure: the levels and the nodes of a query; query.shapes, query.node: what each kind permits; the code of a node's error; strings.Split at a space; the words of a text.
-/
import Derived.Test.YtfjpedgddgbelaaGreatDoorG11
import Derived.Test.YtfjpedgddgbelaaGreatDoorG12
import Derived.Test.YtfjpedgddgbelaaGreatDoorG2
import Derived.Test.YtfjpedgddgbelaaGreatDoorG8
import Derived.Test.YtfjpedgddgbelaaGreatDoorG5
import Derived.Outline
import Derived.Laws.EntriesVeiled
import Derived.Laws.Tables
import Derived.Deep.WholeRow
import Derived.Great.BuildSlice
import Derived.Deep.CutBlock
import Derived.Deep.DeepCutAuto
import Derived.Deep.QuietTactic
import Derived.BigQuiet
import Derived.Lib.Bytealg
namespace Go.Proofs.YtfjpedgddgbelaaGreatDoor
set_option linter.unusedVariables false
namespace Sr
open Q
/-- where the stem of a word occurs in a text -/
def places (x : Ix.Idx) (word : Str) (id : Int) : List Int := Ix.cont x.2 (Sm.stem word) id
theorem places_eq (x : Ix.Idx) (word : Str) (id : Int) : places x word id = (Al.look ((Al.look x.2 (Sm.stem word)).getD []) id).getD [] := by
  unfold places Ix.cont
  cases Al.look x.2 (Sm.stem word) <;> rfl
def prefixF (x : Ix.Idx) (s : Str) (id : Int) : Bool := x.2.any fun t => s.isPrefixOf t.1 && t.2.any fun p => p.1 == id
/-- words at consecutive places, from one on -/
def rowAt (x : Ix.Idx) (id at_ : Int) : List Str → Int → Bool
  | [], _ => true
  | w :: l, k => (places x w id).contains (at_ + k) && rowAt x id at_ l (k + 1)
def phraseF (x : Ix.Idx) (l : List Str) (id : Int) : Bool := (places x (l.headD []) id).any fun a => rowAt x id a l 0
def nearF (x : Ix.Idx) (a b : Str) (most id : Int) : Bool := (places x a id).any fun i => (places x b id).any fun k => (!(k == i) && decide (k - i ≤ most)) && decide (i - k ≤ most)
def findsF : Nat → Ix.Idx → Q → Int → Bool
  | 0, _, _, _ => true
  | f + 1, x, q, id =>
    if q.kind = 2 then decide (0 < (places x q.text id).length)
    else if q.kind = 3 then prefixF x q.text id
    else if q.kind = 4 then phraseF x (splitS q.text) id
    else if q.kind = 5 then nearF x ((splitS q.text).headD []) ((splitS q.text).getD 1 []) q.num id
    else if q.kind = 6 then !(q.parts.any fun p => !findsF f x p id)
    else if q.kind = 7 then q.parts.any fun p => findsF f x p id
    else if q.kind = 8 then !findsF f x (q.parts.headD (.node 0 [] 0 [])) id
    else true
theorem any_same {α : Type} {l : List α} {f g : α → Bool} (h : ∀ a ∈ l, f a = g a) : l.any f = l.any g := by
  induction l with
  | nil => rfl
  | cons a l ih => rw [List.any_cons, List.any_cons, h a (.head _), ih fun b hb => h b (.tail _ hb)]
theorem findsF_fits : ∀ {f : Nat} {q : Q} (x : Ix.Idx) (id : Int), Fits f q → (q.kind = 8 → q.parts ≠ []) → (∀ p ∈ pre f q, p.kind = 8 → p.parts ≠ []) → findsF (f + 1) x q id = findsF f x q id
  | 0, q, x, id, h, _, _ => h.elim
  | f + 1, q, x, id, h, h8, ha => by
    have hp : ∀ p ∈ q.parts, findsF (f + 1) x p id = findsF f x p id := fun p hp => by
      have hin : ∀ r ∈ pre f p, r ∈ pre (f + 1) q := fun r hr => by
        rw [pre]; exact .tail _ (List.mem_flatMap.2 ⟨p, hp, hr⟩)
      have hself : p ∈ pre f p := by
        match f, h p hp with
        | f + 1, _ => rw [pre]; exact .head _
      exact findsF_fits x id (h p hp) (ha p (hin p hself)) fun r hr => ha r (hin r hr)
    rw [findsF, any_same hp, any_same fun p hq => by rw [hp p hq]]
    by_cases e : q.kind = 8
    · have hne := h8 e
      obtain ⟨a, l, hl⟩ : ∃ a l, q.parts = a :: l := by
        cases hh : q.parts with
        | nil => exact absurd hh hne
        | cons a l => exact ⟨a, l, rfl⟩
      have := hp a (by rw [hl]; exact .head _)
      have hh : q.parts.headD (.node 0 [] 0 []) = a := by rw [hl]; rfl
      rw [hh, this, findsF, hh]
    · rw [if_neg e, findsF, if_neg e]
/-- the texts that a query finds -/
def foundF (x : Ix.Idx) (q : Q) : List Int := x.1.filter fun id => findsF 8 x q id
def findR (x : Ix.Idx) (q : Q) : List Int × Int × Int :=
  if (Ix.indexF x).1 ≠ 0 then ([], Ix.indexF x) else if (fault q).1 ≠ 0 then ([], (fault q).1, -5) else (foundF x q, 0, 0)
theorem notempty {q : Q} (h : (fault q).1 = 0) : ∀ p ∈ pre 8 q, p.kind = 8 → p.parts ≠ [] := fun p hp hk hn => by
  have he := (fault_zero.1 h).2.2 p hp
  unfold errOf at he
  rw [hk, hn] at he
  simp [least] at he
theorem pre_self {f : Nat} {q : Q} (h : Fits f q) : q ∈ pre f q := by
  match f, h with
  | f + 1, _ => rw [pre]; exact .head _
/-- a valid query finds the same at all levels that are enough -/
theorem finds_up {q : Q} (h : (fault q).1 = 0) {f : Nat} (hf : 8 ≤ f) (x : Ix.Idx) (id : Int) : findsF f x q id = findsF 8 x q id := by
  have hg := fault_zero.1 h
  have key : ∀ n, Fits (8 + n) q ∧ pre (8 + n) q = pre 8 q ∧ findsF (8 + n) x q id = findsF 8 x q id := by
    intro n
    induction n with
    | zero => exact ⟨hg.1, rfl, rfl⟩
    | succ n ih =>
      obtain ⟨h1, h2, h3⟩ := ih
      have hne := notempty h
      refine ⟨h1.succ, (pre_fits h1).trans h2, (findsF_fits x id h1 (hne q (pre_self hg.1)) (by rw [h2]; exact hne)).trans h3⟩
  obtain ⟨n, rfl⟩ : ∃ n, f = 8 + n := ⟨f - 8, by omega⟩
  exact (key n).2.2
end Sr
end Go.Proofs.YtfjpedgddgbelaaGreatDoor
namespace Go.Proofs.YtfjpedgddgbelaaGreatDoor
open Go.RowKit
set_option linter.unusedVariables false
/-- what the reader may read: nothing that is made from B on -/
abbrev MF (B : Nat) : Nat → Prop := fun b => B ≤ b
theorem SlR.far {α : Type} {C : Codec α} {B : Nat} {w w' : World} {v : Value} {l : List α} (h : SlR C (MF B) w v l) (hb : Below B w w') : SlR C (MF B) w' v l :=
  h.keep (fun b _ hm => hb.block b (by omega)) hb.size
theorem QAt.far {f B : Nat} {w w' : World} {v : Value} {q : Q} (h : QAt f (MF B) w v q) (hb : Below B w w') : QAt f (MF B) w' v q := by
  obtain ⟨A, c, e, h1, h2, h3, hv⟩ := h
  exact ⟨A, c, e, h1, h2, h3, hv.far hb⟩
theorem QAt.toMF {f : Nat} {M : Nat → Prop} {w : World} {v : Value} {q : Q} (h : QAt f M w v q) : QAt f (MF w.heap.size) w v q := by
  obtain ⟨A, c, e, h1, h2, h3, hv⟩ := h
  exact ⟨A, c, e, h1, h2, h3, hv.sub fun b hb hm => by omega⟩
theorem QAt.lowMF {f B B' : Nat} {w : World} {v : Value} {q : Q} (h : QAt f (MF B) w v q) (hB : B ≤ B') : QAt f (MF B') w v q := by
  obtain ⟨A, c, e, h1, h2, h3, hv⟩ := h
  exact ⟨A, c, e, h1, h2, h3, hv.sub fun b hb hm => by omega⟩
theorem Blk.four {w : World} {g : Nat} {t : TypeId} {a b c d : Value} (h : Blk w g t #[a, b, c, d]) : w.cell? ⟨g, 0, none⟩ = some a ∧ w.cell? ⟨g, 1, none⟩ = some b ∧ w.cell? ⟨g, 2, none⟩ = some c ∧ w.cell? ⟨g, 3, none⟩ = some d ∧ g < w.heap.size :=
  ⟨h.cell 0, h.cell 1, h.cell 2, h.cell 3, h.lt⟩
theorem box4 (w : World) (c0 c1 c2 c3 : Array Value) (t0 t1 t2 t3 : TypeId) : ∃ W, ((((w.alloc (.cells c0 t0)).alloc (.cells c1 t1)).alloc (.cells c2 t2)).alloc (.cells c3 t3)) = W ∧ Blk W w.heap.size t0 c0 ∧ Blk W (w.heap.size + 1) t1 c1 ∧ Blk W (w.heap.size + 1 + 1) t2 c2 ∧ Blk W (w.heap.size + 1 + 1 + 1) t3 c3 ∧
    Below w.heap.size w W ∧ W.heap.size = w.heap.size + 1 + 1 + 1 + 1 := by
  have e1 : (w.alloc (.cells c0 t0)).heap.size = w.heap.size + 1 := World.size_alloc ..
  have e2 : ((w.alloc (.cells c0 t0)).alloc (.cells c1 t1)).heap.size = w.heap.size + 1 + 1 := by rw [World.size_alloc, e1]
  have e3 : (((w.alloc (.cells c0 t0)).alloc (.cells c1 t1)).alloc (.cells c2 t2)).heap.size = w.heap.size + 1 + 1 + 1 := by rw [World.size_alloc, e2]
  have k1 := Blk.new (w.alloc (.cells c0 t0)) t1 c1
  have k2 := Blk.new ((w.alloc (.cells c0 t0)).alloc (.cells c1 t1)) t2 c2
  have k3 := Blk.new (((w.alloc (.cells c0 t0)).alloc (.cells c1 t1)).alloc (.cells c2 t2)) t3 c3
  rw [e1] at k1
  rw [e2] at k2
  rw [e3] at k3
  exact ⟨_, rfl, (((Blk.new w t0 c0).alloc _).alloc _).alloc _, (k1.alloc _).alloc _, k2.alloc _, k3, ((((Below.refl _ w).alloc (Nat.le_refl _) _).alloc (by omega) _).alloc (by omega) _).alloc (by omega) _, by rw [World.size_alloc, e3]⟩
/-- the three boxes of measure -/
structure Boxes (w : World) (gL gN gV : Nat) (L N : Int) : Prop where
  l : Blk w gL 3 #[.int .i64 L]
  n : Blk w gN 3 #[.int .i64 N]
  v : Blk w gV 164 #[.func (.func 135) #[] #[.pointer (some ⟨gL, 0, none⟩), .pointer (some ⟨gN, 0, none⟩), .pointer (some ⟨gV, 0, none⟩)]]
theorem Boxes.ext {w w' : World} {gL gN gV : Nat} {L N : Int} (h : Boxes w gL gN gV L N) (hb : Below w.heap.size w w') : Boxes w' gL gN gV L N := ⟨h.l.ext hb, h.n.ext hb, h.v.ext hb⟩
theorem Boxes.put {w : World} {gL gN gV : Nat} {L N : Int} (h : Boxes w gL gN gV L N) (h1 : gL ≠ gN) (h2 : gL ≠ gV) (h3 : gN ≠ gV) (L' N' : Int) : Boxes ((w.setCell ⟨gL, 0, none⟩ (.int .i64 L')).setCell ⟨gN, 0, none⟩ (.int .i64 N')) gL gN gV L' N' := by
  refine ⟨?_, ?_, ?_⟩
  · have := (h.l.set_ 0 (.int .i64 L')).far (p := ⟨gN, 0, none⟩) h1 (.int .i64 N')
    simpa using this
  · have := (h.n.far (p := ⟨gL, 0, none⟩) h1.symm (.int .i64 L')).set_ 0 (.int .i64 N')
    simpa using this
  · exact (h.v.far (p := ⟨gL, 0, none⟩) h2.symm _).far (p := ⟨gN, 0, none⟩) h3.symm _
theorem top_snoc (l : List Nat) (a : Nat) : Q.top (l ++ [a]) = max (Q.top l) a := by
  induction l with
  | nil => simp [Q.top]
  | cons b l ih => rw [List.cons_append, Q.top, Q.top, ih]; omega
set_option maxRecDepth 100000 in
set_option maxHeartbeats 4000000 in
theorem visit_ok (B gL gN gV : Nat) (hBL : B ≤ gL) (hBN : B ≤ gN) (h1 : gL ≠ gN) (h2 : gL ≠ gV) (h3 : gN ≠ gV) : ∀ (e : Nat) (f : Nat) (q : Q) (v : Value) (w : World) (L N : Int), e ≤ 8 → QAt f (MF B) w v q → B ≤ w.heap.size → Boxes w gL gN gV L N → 0 ≤ L → L ≤ 9 → 0 ≤ N → N + q.bulk ≤ 4611686018427387904 →
    Calls Tryz.prog 135 #[v, .int .i64 (9 - e : Int), .pointer (some ⟨gL, 0, none⟩), .pointer (some ⟨gN, 0, none⟩), .pointer (some ⟨gV, 0, none⟩)] w fun r w' => r = .returned (.tuple #[]) ∧ Below B w w' ∧ Boxes w' gL gN gV (max L (8 - e + (Q.lev (e + 1) q : Nat) : Int)) (N + ((Q.pre (e + 1) q).length : Nat)) := by
    intro e
    induction e using Nat.strongRecOn with | _ e ih => ?_
    intro f q v w L N he hq hB hx hL hL9 hN hNb
    obtain ⟨A, c, rfl, _, _, _, hv⟩ := hq
    obtain ⟨k, t, n, ps⟩ := q
    simp only [Q.kind_node, Q.text_node, Q.num_node, Q.parts_node] at hv ⊢
    have hps := hv.len_le
    unfold maxLen at hps
    have hbk := Q.bulk_eq (.node k t n ps)
    simp only [Q.text_node, Q.parts_node] at hbk
    have hb0 := (Below.refl B w).alloc hB (.cells #[.int .i64 k, .string (bs t), .int .i64 n, .slice A ps.length c] 50)
    have kb := Blk.new w 50 #[.int .i64 k, .string (bs t), .int .i64 n, .slice A ps.length c]
    have hx0 := hx.ext ((Below.refl w.heap.size w).alloc (Nat.le_refl _) (.cells #[.int .i64 k, .string (bs t), .int .i64 n, .slice A ps.length c] 50))
    obtain ⟨p0, p1, p2, p3, _⟩ := kb.four
    obtain ⟨x0, x1, _⟩ := hx0.l.one
    obtain ⟨y0, y1, _⟩ := hx0.n.one
    have hgL : gL ≠ w.heap.size := fun h => by have := hx.l.lt; omega
    have hgN : gN ≠ w.heap.size := fun h => by have := hx.n.lt; omega
    go_enter Tryz.func135, Tryz.ntmps135
    go_wp2_with fail
    go_region
    obtain ⟨W, hW⟩ : ∃ W, ((((w.alloc (.cells #[.int .i64 k, .string (bs t), .int .i64 n, .slice A ps.length c] 50)).setCell ⟨gL, 0, none⟩ (.int .i64 (max L (9 - e)))).setCell ⟨gN, 0, none⟩ (.int .i64 (N + 1))).drew) = W := ⟨_, rfl⟩
    have hbW : Below B w W := by rw [← hW]; exact ((hb0.setCell (p := ⟨gL, 0, none⟩) hBL _).setCell (p := ⟨gN, 0, none⟩) hBN _).drew
    have hxW : Boxes W gL gN gV (max L (9 - e)) (N + 1) := by rw [← hW]; have hp := hx0.put h1 h2 h3 (max L (9 - e)) (N + 1); exact ⟨hp.l, hp.n, hp.v⟩
    have p3W : W.cell? ⟨w.heap.size, 3, none⟩ = some (.slice A ps.length c) := by
      rw [← hW]
      exact (((kb.far (p := ⟨gL, 0, none⟩) hgL.symm _).far (p := ⟨gN, 0, none⟩) hgN.symm _).four).2.2.2.1
    rw [hW]
    have hB' := Nat.le_trans hB hbW.size
    clear p0 p1 p2 p3 x0 x1 y0 y1 hgL hgN kb hb0 hx0 hW hx
    have hv0 := hv
    go_wp2_with fail
    go_loopw [17] (fun i wr => ∃ m : Nat, m ≤ ps.length ∧ i = .int .i64 m ∧ Below B w wr ∧ Boxes wr gL gN gV (max L (9 - e + (Q.top ((ps.take m).map (Q.lev e)) : Nat))) (N + 1 + (((ps.take m).flatMap (Q.pre e)).length : Nat))) (fun i _ => ps.length - (intOf i).toNat)
    case atStart => exact ⟨0, Nat.zero_le _, rfl, hbW, by simpa [Q.top] using hxW⟩
    case round =>
      obtain ⟨m, hm, rfl, hb, hx⟩ := hrel
      by_cases hlt : m < ps.length
      · have hvr := hv0.far hb
        obtain ⟨b, off, g, A2, c2, rfl, rfl, hMb, hbs, q0, q1, q2, q3, hqa⟩ := hvr.qAt hlt
        have hbm := Q.take_bulk hlt
        have hfl := Q.flat_bulk e (ps.take m)
        have htl := Q.top_lev_le e (ps.take m)
        have htk := List.take_succ_eq_append_getElem hlt
        obtain ⟨x, hxe⟩ : ∃ x, x = ps[m] := ⟨_, rfl⟩
        rw [← hxe] at q0 q1 q2 q3 hqa hbm htk
        clear hxe
        obtain ⟨z0, _, _⟩ := hx.v.one
        have Hqa := Lib.hid hqa; have Hbm := Lib.hid hbm; have Hfl := Lib.hid hfl; have Htl := Lib.hid htl; have Htk := Lib.hid htk
        clear hqa hbm hfl htl htk hvr
        have hal := (Below.refl wr.heap.size wr).alloc (Nat.le_refl _) (.cells #[.int .i64 x.kind, .string (bs x.text), .int .i64 x.num, .slice A2 x.parts.length c2] 50)
        have halB := hb.alloc (Nat.le_trans hB hb.size) (.cells #[.int .i64 x.kind, .string (bs x.text), .int .i64 x.num, .slice A2 x.parts.length c2] 50)
        by_cases h8 : 1 ≤ e
        · have hbm := Hbm.out; have hfl := Hfl.out; have htl := Htl.out
          have hcall := ih (e - 1) (by omega) g x _ _ _ _ (by omega) (Hqa.out.far ((Below.refl B wr).alloc (Nat.le_trans hB hb.size) _)) (Nat.le_trans hB halB.size) (hx.ext hal) (by omega) (by omega) (by omega) (by omega)
          clear hbm hfl htl
          have hlv : (9 - ((e - 1 : Nat) : Int)) = 9 - (e : Int) + 1 := by omega
          have hlw : (8 - ((e - 1 : Nat) : Int)) = 9 - (e : Int) := by omega
          have he1 : e - 1 + 1 = e := by omega
          rw [hlv, hlw, he1] at hcall
          have Hc := Lib.hid hcall
          clear hcall
          go_wp2_with fail
          refine Hc.out.mono ?_
          rintro r w2 ⟨rfl, hb2, hx2⟩
          go_wp2_with fail
          go_roundw
          case rel =>
            refine ⟨m + 1, by omega, by go_num, halB.trans hb2, ?_⟩
            rw [Htk.out, List.map_append, List.flatMap_append, List.map_singleton, top_snoc, List.flatMap_cons, List.flatMap_nil, List.append_nil, List.length_append]
            have e1 : max (max L (9 - (e : Int) + (Q.top ((ps.take m).map (Q.lev e)) : Nat))) (9 - (e : Int) + (Q.lev e x : Nat)) = max L (9 - (e : Int) + (max (Q.top ((ps.take m).map (Q.lev e))) (Q.lev e x) : Nat)) := by omega
            have e2 : N + 1 + (((ps.take m).flatMap (Q.pre e)).length : Nat) + ((Q.pre e x).length : Nat) = N + 1 + ((((ps.take m).flatMap (Q.pre e)).length + (Q.pre e x).length : Nat) : Int) := by omega
            rw [e1, e2] at hx2
            exact hx2
          case measure => simp [intOf]; omega
        · obtain rfl : e = 0 := by omega
          go_wp2_with fail
          go_roundw
          case rel =>
            refine ⟨m + 1, by omega, by go_num, halB, ?_⟩
            have h0 := Q.top_lev_le 0 (ps.take (m + 1))
            have h1 := Htl.out
            have z1 : Q.top ((ps.take (m + 1)).map (Q.lev 0)) = Q.top ((ps.take m).map (Q.lev 0)) := by omega
            have z2 : ∀ l : List Q, l.flatMap (Q.pre 0) = [] := fun l => by simp [Q.pre]
            rw [z1, z2]
            have hx9 := hx.ext hal
            rw [z2] at hx9
            exact hx9
          case measure => simp [intOf]; omega
      · obtain rfl : m = ps.length := by omega
        rw [List.take_length] at hx
        go_wp2_with fail
        refine bodyPost_end (results_none rfl _ _ _) rfl ⟨rfl, hb, ?_⟩
        have e1 : (9 - (e : Int) + (Q.top (ps.map (Q.lev e)) : Nat)) = (8 - (e : Int) + (Q.lev (e + 1) (.node k t n ps) : Nat)) := by rw [Q.lev]; simp only [Q.parts_node]; omega
        have e2 : N + 1 + ((ps.flatMap (Q.pre e)).length : Nat) = N + ((Q.pre (e + 1) (.node k t n ps)).length : Nat) := by rw [Q.pre, List.length_cons]; simp only [Q.parts_node]; omega
        rw [e1, e2] at hx
        exact hx
set_option maxRecDepth 100000 in
set_option maxHeartbeats 4000000 in
theorem measure_ok (f : Nat) (q : Q) (v : Value) (w : World) (hq : QAt f M0 w v q) (hN : q.bulk ≤ 4611686018427387904) :
    Calls Tryz.prog 88 #[v] w fun r w' => r = .returned (.tuple #[.int .i64 (Q.lev 9 q : Nat), .int .i64 ((Q.pre 9 q).length : Nat)]) ∧ Below w.heap.size w w' := by
  have hqM := hq.toMF
  obtain ⟨A, c, rfl, _, _, _, hv⟩ := hq
  obtain ⟨k, t, n, ps⟩ := q
  simp only [Q.kind_node, Q.text_node, Q.num_node, Q.parts_node] at hv hqM ⊢
  obtain ⟨V, hV, kq, kl, kn, kv, hbV, hsV⟩ := box4 w #[.int .i64 k, .string (bs t), .int .i64 n, .slice A ps.length c] #[.int .i64 0] #[.int .i64 0] #[.func (.func 135) #[] #[.pointer (some ⟨w.heap.size + 1, 0, none⟩), .pointer (some ⟨w.heap.size + 1 + 1, 0, none⟩), .pointer (some ⟨w.heap.size + 1 + 1 + 1, 0, none⟩)]] 50 3 3 164
  have hcall := visit_ok w.heap.size _ _ _ (by omega) (by omega) (by omega) (by omega) (by omega) 8 f (.node k t n ps) _ V 0 0 (by omega) (hqM.far hbV) hbV.size ⟨kl, kn, kv⟩ (by omega) (by omega) (by omega) (by omega)
  have Hc := Lib.hid hcall; have HV := Lib.hid hV
  clear hcall hV kq kl kn kv hsV hv hqM
  go_enter Tryz.func88, Tryz.ntmps88
  go_wp2_with fail
  rw [HV.out]
  refine Hc.out.mono ?_
  rintro r w2 ⟨rfl, hb2, hx2⟩
  have hl9 := Q.lev_le 9 (.node k t n ps)
  rw [show (8 : Nat) + 1 = 9 from rfl] at hx2
  have e1 : (max (0 : Int) (8 - ((8 : Nat) : Int) + (Q.lev 9 (.node k t n ps) : Nat))) = (Q.lev 9 (.node k t n ps) : Nat) := by omega
  have e2 : ((0 : Int) + ((Q.pre 9 (.node k t n ps)).length : Nat)) = ((Q.pre 9 (.node k t n ps)).length : Nat) := by omega
  rw [e1, e2] at hx2
  obtain ⟨x0, x1, _⟩ := hx2.l.one
  obtain ⟨y0, y1, _⟩ := hx2.n.one
  have Hx2 := Lib.hid hx2
  clear e1 e2 hx2 hl9
  go_wp2_with fail
  go_region
  have hp := Hx2.out.put (by omega) (by omega) (by omega) (Q.lev 9 (.node k t n ps) : Nat) ((Q.pre 9 (.node k t n ps)).length : Nat)
  go_wp2_with fail
  have hb3 : Below w.heap.size w (((w2.setCell ⟨w.heap.size + 1, 0, none⟩ (.int .i64 (Q.lev 9 (.node k t n ps) : Nat))).setCell ⟨w.heap.size + 1 + 1, 0, none⟩ (.int .i64 ((Q.pre 9 (.node k t n ps)).length : Nat))).drew) :=
    (((hbV.trans hb2).setCell (p := ⟨w.heap.size + 1, 0, none⟩) (by show w.heap.size ≤ w.heap.size + 1; omega) _).setCell (p := ⟨w.heap.size + 1 + 1, 0, none⟩) (by show w.heap.size ≤ w.heap.size + 1 + 1; omega) _).drew
  obtain ⟨W, hW⟩ : ∃ W, (w2.setCell ⟨w.heap.size + 1, 0, none⟩ (.int .i64 (Q.lev 9 (.node k t n ps) : Nat))).setCell ⟨w.heap.size + 1 + 1, 0, none⟩ (.int .i64 ((Q.pre 9 (.node k t n ps)).length : Nat)) = W := ⟨_, rfl⟩
  rw [hW] at hp hb3 ⊢
  obtain ⟨u0, _, _⟩ := (show Blk W.drew _ _ _ from hp.l).one
  obtain ⟨u1, _, _⟩ := (show Blk W.drew _ _ _ from hp.n).one
  exact bodyPost_ret (v := .tuple #[.int .i64 (Q.lev 9 (.node k t n ps) : Nat), .int .i64 ((Q.pre 9 (.node k t n ps)).length : Nat)]) (by simp [results, Tryz.results88, go_sem, u0, u1]) rfl ⟨rfl, hb3⟩
end Go.Proofs.YtfjpedgddgbelaaGreatDoor
namespace Go.Proofs.YtfjpedgddgbelaaGreatDoor
open Go.RowKit
set_option linter.unusedVariables false
def shapesA : Array Value := #[.int .i64 0, .int .i64 0, .int .i64 0, .int .i64 0, .int .i64 0, .int .i64 0, .int .i64 0, .int .i64 0, .int .i64 1, .int .i64 0, .int .i64 0, .int .i64 1, .int .i64 0, .int .i64 0, .int .i64 (-1), .int .i64 0, .int .i64 0, .int .i64 2, .int .i64 2, .int .i64 60, .int .i64 0, .int .i64 2, .int .i64 60, .int .i64 0, .int .i64 1, .int .i64 1, .int .i64 0]
set_option maxRecDepth 100000 in
set_option maxHeartbeats 4000000 in
theorem shapes_ok (w : World) : Calls Tryz.prog 136 #[] w fun e w' => e = .returned (.agg shapesA) ∧ Below w.heap.size w w' := by
  obtain ⟨W, hW⟩ : ∃ W, w.alloc (.cells #[.int .i64 0, .int .i64 0, .int .i64 0, .int .i64 0, .int .i64 0, .int .i64 0, .int .i64 0, .int .i64 0, .int .i64 0, .int .i64 0, .int .i64 0, .int .i64 0, .int .i64 0, .int .i64 0, .int .i64 0, .int .i64 0, .int .i64 0, .int .i64 0, .int .i64 0, .int .i64 0, .int .i64 0, .int .i64 0, .int .i64 0, .int .i64 0, .int .i64 0, .int .i64 0, .int .i64 0] 167) = W := ⟨_, rfl⟩
  have hg : ∃ z, W.heap[w.heap.size]? = some (.cells z 167 (0, 0)) ∧ z.size = 27 := ⟨_, by rw [← hW]; exact Blk.new w _ _, rfl⟩
  obtain ⟨z, hg, hz⟩ := hg
  have hb : Below w.heap.size w W := by rw [← hW]; exact (Below.refl _ _).alloc (Nat.le_refl _) _
  have hb2 : Below w.heap.size w (W.setRow w.heap.size shapesA) := hb.trans ⟨rfl, rfl, rfl, by simp, fun k hk => setRow_other _ _ _ _ (by omega)⟩
  have hr := setRow_heap W w.heap.size z shapesA 167 (0, 0) hg
  have HW := Lib.hid hW
  clear hW hb
  go_enter Tryz.func136, Tryz.ntmps136
  go_upto_region 1 with (fail)
  rw [HW.out]
  apply wp_region_lit
  refine wpList_buildTo rfl 166 _ rfl (some 1) rfl #[.int .i64 0, .int .i64 0, .int .i64 1] (by kernel_rfl) ?_
  refine wpList_buildTo rfl 166 _ rfl (some 2) rfl #[.int .i64 0, .int .i64 0, .int .i64 1] (by kernel_rfl) ?_
  refine wpList_buildTo rfl 166 _ rfl (some 3) rfl #[.int .i64 0, .int .i64 0, .int .i64 (-1)] (by kernel_rfl) ?_
  refine wpList_buildTo rfl 166 _ rfl (some 4) rfl #[.int .i64 0, .int .i64 0, .int .i64 2] (by kernel_rfl) ?_
  refine wpList_buildTo rfl 166 _ rfl (some 5) rfl #[.int .i64 2, .int .i64 60, .int .i64 0] (by kernel_rfl) ?_
  refine wpList_buildTo rfl 166 _ rfl (some 6) rfl #[.int .i64 2, .int .i64 60, .int .i64 0] (by kernel_rfl) ?_
  refine wpList_buildTo rfl 166 _ rfl (some 7) rfl #[.int .i64 1, .int .i64 1, .int .i64 0] (by kernel_rfl) ?_
  refine wpList_buildTo rfl 167 _ rfl (some 8) rfl shapesA (by kernel_rfl) ?_
  refine wpList_store_rowTo rfl 167 _ _ rfl rfl w.heap.size shapesA (by kernel_rfl) (by kernel_rfl) 167 z hg (by kernel_rfl) (by rw [hz]; rfl) (by kernel_rfl) ?_
  apply wpList_nil
  obtain ⟨V, hV⟩ : ∃ V, W.setRow w.heap.size shapesA = V := ⟨_, rfl⟩
  rw [hV] at hb2 hr ⊢
  clear hV hg hz
  go_wp2_with fail
  exact bodyPost_ret (v := .agg shapesA) (results_cell_row Tryz.results136 _ V w.heap.size 167 shapesA (0, 0) _ (by kernel_rfl) hr Tryz.underlying167 rfl (by kernel_rfl)) rfl ⟨rfl, hb2⟩
end Go.Proofs.YtfjpedgddgbelaaGreatDoor
namespace Go.Proofs.YtfjpedgddgbelaaGreatDoor
open Go.RowKit

/-- A text with a space: cut at its first one. -/
theorem cut_first : ∀ s : Str, 32 ∈ s → ∃ q r, s = q ++ 32 :: r ∧ 32 ∉ q
  | [], h => by cases h
  | c :: t, h => by
    by_cases hc : c = 32
    · exact ⟨[], t, by rw [hc]; rfl, by simp⟩
    · rcases List.mem_cons.1 h with h | h
      · exact absurd h.symm hc
      · obtain ⟨q, r, rfl, hq⟩ := cut_first t h
        exact ⟨c :: q, r, rfl, by simp only [List.mem_cons, not_or]; exact ⟨fun e => hc e.symm, hq⟩⟩
theorem index_slash : ∀ (q r : Str), 32 ∉ q → Lib.indexByte (q ++ 32 :: r) 32 = (q.length : Int)
  | [], r, _ => by simp [Lib.indexByte]
  | c :: q, r, h => by
    simp only [List.mem_cons, not_or] at h
    have ih := index_slash q r h.2
    rw [List.cons_append, Lib.indexByte, ih]
    have h1 : (c == (32 : UInt8)) = false := by simpa using fun e : c = 32 => h.1 e.symm
    have h2 : ((q.length : Int) == -1) = false := by simp
    rw [h1, h2]; simp
theorem index_none : ∀ (s : Str), 32 ∉ s → Lib.indexByte s 32 = -1
  | [], _ => rfl
  | c :: q, h => by
    simp only [List.mem_cons, not_or] at h
    have ih := index_none q h.2
    have h1 : (c == (32 : UInt8)) = false := by simpa using fun e : c = 32 => h.1 e.symm
    rw [Lib.indexByte, ih, h1]; simp
theorem count_cut (q r : Str) (h : 32 ∉ q) : (q ++ 32 :: r).count 32 = r.count 32 + 1 := by
  rw [List.count_append, List.count_eq_zero_of_not_mem h, List.count_cons_self]; omega
theorem set_midS {α : Type} (p rest : List α) (a b : α) (k : Nat) (h : p.length = k) : (p ++ a :: rest).set k b = p ++ b :: rest := by
  subst h
  induction p with
  | nil => rfl
  | cons c p ih => rw [List.cons_append, List.length_cons, List.set_cons_succ, ih, List.cons_append]
set_option maxRecDepth 100000 in
theorem countB_ok (s : Str) (w : World) : Calls Tryz.prog 248 #[.string (bs s), .string ⟨#[32]⟩] w fun e w' => e = .returned (.int .i64 (s.count 32 : Nat)) ∧ w = w' := by
  go_enter Tryz.func248, Tryz.ntmps248
  go_wp2
  rw [run_callFunc_extern Tryz.func280 (by kernel_rfl) (by kernel_rfl) (by kernel_rfl) (e := Extern.BytealgCount.count) (by kernel_rfl), Lib.run_countString]
  simp only [Result.andThen]
  rw [Oper.upon_value]
  go_wp2
  go_ret
  exact ⟨by simp only [Lib.countByte]; rfl, rfl⟩
set_option maxRecDepth 100000 in
theorem indexByteB_ok (s : Str) (w : World) : Calls Tryz.prog 203 #[.string (bs s), .int .u8 32] w fun e w' => e = .returned (.int .i64 (Lib.indexByte s 32)) ∧ w = w' := by
  go_enter Tryz.func203, Tryz.ntmps203
  go_wp2
  rw [run_callFunc_extern Tryz.func246 (by kernel_rfl) (by kernel_rfl) (by kernel_rfl) (e := Extern.BytealgIndexByte.indexByte) (by kernel_rfl), Lib.run_indexByteString]
  simp only [Result.andThen]
  rw [Oper.upon_value]
  go_wp2
  go_ret
  exact ⟨by simp, rfl⟩
set_option maxRecDepth 100000 in
theorem index1_ok (s : Str) (w : World) : Calls Tryz.prog 221 #[.string (bs s), .string ⟨#[32]⟩] w fun e w' => e = .returned (.int .i64 (Lib.indexByte s 32)) ∧ w = w' := by
  have hb := indexByteB_ok s w
  obtain ⟨n, hn⟩ : ∃ n, Lib.indexByte s 32 = n := ⟨_, rfl⟩
  rw [hn] at hb ⊢
  cases hs : (([32] : List UInt8) == s) with
  | true =>
    have h0 : n = 0 := by
      have : s = [32] := by simpa using (beq_iff_eq.1 hs).symm
      rw [← hn, this]; rfl
    subst h0
    clear hn
    go_enter Tryz.func221, Tryz.ntmps221
    go_wp2_with fail
    go_ret
    exact ⟨rfl, rfl⟩
  | false =>
    clear hn
    go_enter Tryz.func221, Tryz.ntmps221
    go_wp2_with fail
    refine hb.mono ?_
    rintro e w' ⟨rfl, rfl⟩
    go_wp2
    go_ret
    exact ⟨rfl, rfl⟩
theorem index_ok (s : Str) (w : World) : Calls Tryz.prog 249 #[.string (bs s), .string ⟨#[32]⟩] w fun e w' => e = .returned (.int .i64 (Lib.indexByte s 32)) ∧ w = w' := by
  have hb := index1_ok s w
  generalize Lib.indexByte s 32 = n at hb ⊢
  go_enter Tryz.func249, Tryz.ntmps249
  go_wp2_with fail
  refine hb.mono ?_
  rintro e w' ⟨rfl, rfl⟩
  go_wp2
  go_ret
  exact ⟨rfl, rfl⟩

set_option maxRecDepth 100000 in
set_option maxHeartbeats 4000000 in
theorem genSplit_ok (M : Nat → Prop) (s : Str) (w : World) (hs : s.length ≤ 4000000) (_hM : ∀ b, M b → b < w.heap.size) : Calls Tryz.prog 206 #[.string (bs s), .string ⟨#[32]⟩, .int .i64 0, .int .i64 (-1)] w fun e w' =>
    ∃ v', e = .returned v' ∧ Own strC M w' w.heap.size 9 v' (splitS s) ∧ Below w.heap.size w w' := by
  obtain ⟨cn, hcn⟩ : ∃ cn, s.count 32 = cn := ⟨_, rfl⟩
  have hcl : cn ≤ s.length := hcn ▸ List.count_le_length
  have hcnt := countB_ok s w
  rw [hcn] at hcnt
  obtain ⟨i, hi, hz, h1, h2⟩ := info_parts (by kernel_rfl : (Tryz.prog.info? 9).map (fun i => (i.zero, i.size, i.bytes)) = some (some (.string ⟨#[]⟩), 1, 16))
  obtain ⟨w1, hmk, hown, hgr⟩ := run_makeSlice_full (P := Tryz.prog) (w := w) w.heap.size 59 9 i (.string ⟨#[]⟩) 1 Tryz.underlying59 hi hz h1 .i64 .i64 (cn + 1) (by omega) (by rw [h2]; omega) (by unfold maxLen; omega) (Nat.le_refl _)
  have Hcn := Lib.hid hcn; have Hown := Lib.hid hown
  have hcast : ((cn + 1 : Nat) : Int) = (cn : Int) + 1 := by omega
  rw [hcast] at hmk
  clear hcn hown hcast
  have hj : min (cn : Int) (s.length : Int) = cn := by omega
  go_enter Tryz.func206, Tryz.ntmps206
  go_wp2_with fail
  refine hcnt.mono ?_
  rintro e w' ⟨rfl, rfl⟩
  go_wp2_with fail
  clear hmk hcnt
  have hB0 : Own strC M w1 w.heap.size 9 (.slice (some ⟨w.heap.size, 0, none⟩) (cn + 1) (cn + 1)) (List.replicate (cn + 1) []) := by
    refine ⟨List.replicate (cn + 1) (.string ⟨#[]⟩), ?_, by simp [strC], fun j hj => ?_⟩
    · have := Hown.out
      rw [Nat.mul_one] at this
      rw [show madeCells (Value.string ⟨#[]⟩).cells (cn + 1) = madeCells #[.string ⟨#[]⟩] (cn + 1) from rfl, toList_madeCells_one] at this
      rw [List.length_replicate]
      exact this
    · have hj' : j < cn + 1 := by simpa using hj
      rw [List.getElem_replicate, List.drop_replicate, List.take_replicate]
      have : min strC.n (cn + 1 - j * strC.n) = 1 := by show min 1 (cn + 1 - j * 1) = 1; omega
      rw [this]
      exact ⟨rfl, Nat.zero_le _⟩
  have hb1 : Below w.heap.size w w1 := (Below.refl _ _).grown hgr (Nat.le_refl _) (fun b h => by cases h)
  have HB0 := Lib.hid hB0; have Hb1 := Lib.hid hb1
  clear hB0 hgr hi hz h1 h2 hj Hown
  go_loopw [0, 10] (fun sv ii wr => ∃ (k : Nat) (p : List Str) (r : Str), k ≤ cn ∧ ii = .int .i64 k ∧ sv = .string (bs r) ∧ Hid (p.length = k ∧ splitS s = p ++ splitS r ∧ r.count 32 = cn - k ∧ r.length ≤ s.length) ∧ Own strC M wr w.heap.size 9 (.slice (some ⟨w.heap.size, 0, none⟩) (cn + 1) (cn + 1)) (p ++ List.replicate (cn + 1 - k) []) ∧ Below w.heap.size w wr) (fun _ ii _ => cn - (intOf ii).toNat)
  case atStart => exact ⟨0, [], s, Nat.zero_le _, rfl, rfl, Lib.hid ⟨rfl, rfl, by rw [Hcn.out]; rfl, Nat.le_refl _⟩, by simpa using HB0.out, Hb1.out⟩
  case round =>
    obtain ⟨k, p, r, hk, rfl, rfl, hp, hown, hb⟩ := hrel
    have hrl : r.length ≤ 4000000 := Nat.le_trans hp.out.2.2.2 hs
    have hoL : 0 < (p ++ List.replicate (cn + 1 - k) ([] : Str)).length := by simp; omega
    obtain ⟨g, c9, cur, hv, _, _, _, hblk, hsz⟩ := hown.blk hoL
    injection hv with hv1 hv2 hv3
    injection hv1 with hv1
    injection hv1 with hv1
    subst hv1 hv3
    have hsz1 : cur.size = cn + 1 := by rw [hsz]; show (cn + 1) * 1 = cn + 1; omega
    have hc0 := hblk.cell k
    obtain ⟨u0, hu0⟩ : ∃ u, cur[k]? = some u := ⟨_, Array.getElem?_eq_getElem (by omega)⟩
    rw [hu0] at hc0
    clear hu0 hsz1 hsz
    have hf0 := hblk.frozen k
    have hgl := hblk.lt
    by_cases hlt : k < cn
    · have hmem : 32 ∈ r := by
        have := hp.out.2.2.1
        exact List.count_pos_iff.1 (by omega)
      obtain ⟨q, t, hr, hq⟩ := cut_first r hmem
      have hix := index_ok r wr
      rw [hr, index_slash q t hq, ← hr] at hix
      have hql : q.length + 1 ≤ r.length := by rw [hr]; simp
      have hi1 : (k : Int) < (cn : Int) + 1 := by omega
      have Hr := Lib.hid hr
      clear hr hmem hv2
      have Hhp := Lib.hid hown
      go_wp2_with fail
      refine hix.mono ?_
      rintro e w' ⟨rfl, rfl⟩
      go_wp2_with fail
      go_roundw
      case rel =>
        obtain ⟨p1, p2, p3, p4⟩ := hp.out
        have hr := Hr.out
        have e1 : List.take (r.length - (q.length + 1)) (List.drop (q.length + 1) r) = t := by
          rw [List.take_of_length_le (by rw [List.length_drop]; omega), hr, show q ++ 32 :: t = (q ++ [32]) ++ t by simp, List.drop_left' (by simp)]
        have e2 : List.take q.length r = q := by rw [hr, List.take_left]
        have htl : t.length ≤ r.length := by rw [hr]; simp; omega
        rw [e1, e2]
        have hset := hown.put1 rfl (k := k) (by rw [List.length_append, List.length_replicate]; omega) (u := .string (bs q)) (a := q) ⟨rfl, by unfold maxLen; omega⟩
        have e3 : (p ++ List.replicate (cn + 1 - k) ([] : Str)).set k q = (p ++ [q]) ++ List.replicate (cn + 1 - (k + 1)) [] := by
          rw [show cn + 1 - k = (cn + 1 - (k + 1)) + 1 by omega, List.replicate_succ, set_midS _ _ _ _ _ p1]
          simp
        rw [e3] at hset
        exact ⟨k + 1, p ++ [q], t, by omega, by go_num, rfl, Lib.hid ⟨by simp [p1], by rw [p2, hr, splitS_cut q t hq]; simp, by rw [hr, count_cut q t hq] at p3; omega, by omega⟩, hset, hb.setCell (p := ⟨w.heap.size, k, none⟩) (Nat.le_refl _) _⟩
      case measure => simp [intOf]; omega
    · obtain rfl : k = cn := by omega
      obtain ⟨p1, p2, p3, p4⟩ := hp.out
      have hno : 32 ∉ r := by
        intro h
        have := List.count_pos_iff.2 h
        omega
      have hset := hown.put1 rfl (k := k) (by rw [List.length_append, List.length_replicate]; omega) (u := .string (bs r)) (a := r) ⟨rfl, by unfold maxLen; omega⟩
      have e3 : (p ++ List.replicate (k + 1 - k) ([] : Str)).set k r = splitS s := by
        rw [show k + 1 - k = 0 + 1 by omega, List.replicate_succ, set_midS _ _ _ _ _ p1, p2, splitS_no r hno]
        rfl
      rw [e3] at hset
      have Hset := Lib.hid hset
      have hi1 : (k : Int) < (k : Int) + 1 := by omega
      clear hset e3 p1 p2 p3 p4 hno hv2
      go_wp2
      go_ret
      exact ⟨_, rfl, Hset.out, hb.setCell (p := ⟨w.heap.size, k, none⟩) (Nat.le_refl _) _⟩

set_option maxRecDepth 100000 in
theorem split_ok (M : Nat → Prop) (s : Str) (w : World) (hs : s.length ≤ 4000000) (hM : ∀ b, M b → b < w.heap.size) : Calls Tryz.prog 167 #[.string (bs s), .string ⟨#[32]⟩] w fun e w' =>
    ∃ v', e = .returned v' ∧ Own strC M w' w.heap.size 9 v' (splitS s) ∧ Below w.heap.size w w' := by
  have h := genSplit_ok M s w hs hM
  have H := Lib.hid h
  clear h
  go_enter Tryz.func167, Tryz.ntmps167
  go_wp2_with fail
  refine H.out.mono ?_
  rintro e w' ⟨v, rfl, h1, h2⟩
  obtain ⟨A, c, rfl, _, _⟩ := h1.shape
  go_wp2
  go_ret
  exact ⟨_, rfl, h1, h2⟩
end Go.Proofs.YtfjpedgddgbelaaGreatDoor

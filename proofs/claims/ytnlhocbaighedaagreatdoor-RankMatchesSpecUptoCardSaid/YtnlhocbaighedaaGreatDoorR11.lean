/-
  Contracts and plain facts, one after another: query.measure: the levels and the nodes of a query; query.shapes, query.node: what each kind permits; the code of a node's error; The tables of the library's, row by row: a binary search finds what a look at every row finds; Every letter's lower form is a letter and its own lower form: the rows of the case table, one after another; Every letter's lower form is a letter and its own lower form: the rows of the case table, one after another; A place of a word is added: what the two searches tell, plain; what the call keeps.
-/
import Derived.Test.YtnlhocbaighedaaGreatDoorR10
import Derived.Test.YtnlhocbaighedaaGreatDoorR1
import Derived.Test.YtnlhocbaighedaaGreatDoorR7
import Derived.Test.YtnlhocbaighedaaGreatDoorR9
import Derived.Test.YtnlhocbaighedaaGreatDoorR5
import Derived.Outline
import Derived.Laws.EntriesVeiled
import Derived.Laws.Tables
import Derived.Deep.WholeRow
import Derived.Great.BuildSlice
import Derived.Deep.CutBlock
import Derived.Deep.DeepCutAuto
import Derived.Shelf.Unicode.CaseTo
namespace Go.Proofs.YtnlhocbaighedaaGreatDoor
open Go.RowKit
set_option linter.unusedVariables false
/-- what the reader may read: nothing that is made from B on -/
abbrev MF (B : Nat) : Nat → Prop := fun b => B ≤ b
theorem SlR.far {α : Type} {C : Codec α} {B : Nat} {w w' : World} {v : Value} {l : List α} (h : SlR C (MF B) w v l) (hb : Below B w w') : SlR C (MF B) w' v l :=
 h.keep (fun b _ hm => hb.block b (by omega)) hb.size
theorem QAt.far {f B : Nat} {w w' : World} {v : Value} {q : Q} (h : QAt f (MF B) w v q) (hb : Below B w w') : QAt f (MF B) w' v q := by
 obtain ⟨A, c, e, h1, h2, h3, hv⟩ := h
 exact ⟨A, c, e, h1, h2, h3, hv.far hb⟩
theorem QAt.toMF {f : Nat} {M : Nat → Prop} {w : World} {v : Value} {q : Q} (h : QAt f M w v q) : QAt f (MF w.heap.size) w v q := by
 obtain ⟨A, c, e, h1, h2, h3, hv⟩ := h
 exact ⟨A, c, e, h1, h2, h3, hv.sub fun b hb hm => by omega⟩
theorem Blk.four {w : World} {g : Nat} {t : TypeId} {a b c d : Value} (h : Blk w g t #[a, b, c, d]) : w.cell? ⟨g, 0, none⟩ = some a ∧ w.cell? ⟨g, 1, none⟩ = some b ∧ w.cell? ⟨g, 2, none⟩ = some c ∧ w.cell? ⟨g, 3, none⟩ = some d ∧ g < w.heap.size :=
 ⟨h.cell 0, h.cell 1, h.cell 2, h.cell 3, h.lt⟩
theorem box4 (w : World) (c0 c1 c2 c3 : Array Value) (t0 t1 t2 t3 : TypeId) : ∃ W, ((((w.alloc (.cells c0 t0)).alloc (.cells c1 t1)).alloc (.cells c2 t2)).alloc (.cells c3 t3)) = W ∧ Blk W w.heap.size t0 c0 ∧ Blk W (w.heap.size + 1) t1 c1 ∧ Blk W (w.heap.size + 1 + 1) t2 c2 ∧ Blk W (w.heap.size + 1 + 1 + 1) t3 c3 ∧
  Below w.heap.size w W ∧ W.heap.size = w.heap.size + 1 + 1 + 1 + 1 := by
 have e1 : (w.alloc (.cells c0 t0)).heap.size = w.heap.size + 1 := World.size_alloc ..
 have e2 : ((w.alloc (.cells c0 t0)).alloc (.cells c1 t1)).heap.size = w.heap.size + 1 + 1 := by rw [World.size_alloc, e1]
 have e3 : (((w.alloc (.cells c0 t0)).alloc (.cells c1 t1)).alloc (.cells c2 t2)).heap.size = w.heap.size + 1 + 1 + 1 := by rw [World.size_alloc, e2]
 have k1 := Blk.new (w.alloc (.cells c0 t0)) t1 c1
 have k2 := Blk.new ((w.alloc (.cells c0 t0)).alloc (.cells c1 t1)) t2 c2
 have k3 := Blk.new (((w.alloc (.cells c0 t0)).alloc (.cells c1 t1)).alloc (.cells c2 t2)) t3 c3
 rw [e1] at k1
 rw [e2] at k2
 rw [e3] at k3
 exact ⟨_, rfl, (((Blk.new w t0 c0).alloc _).alloc _).alloc _, (k1.alloc _).alloc _, k2.alloc _, k3, ((((Below.refl _ w).alloc (Nat.le_refl _) _).alloc (by omega) _).alloc (by omega) _).alloc (by omega) _, by rw [World.size_alloc, e3]⟩
/-- the three boxes of measure -/
structure Boxes (w : World) (gL gN gV : Nat) (L N : Int) : Prop where
 l : Blk w gL 3 #[.int .i64 L]
 n : Blk w gN 3 #[.int .i64 N]
 v : Blk w gV 108 #[.func (.func 75) #[] #[.pointer (some ⟨gL, 0, none⟩), .pointer (some ⟨gN, 0, none⟩), .pointer (some ⟨gV, 0, none⟩)]]
theorem Boxes.ext {w w' : World} {gL gN gV : Nat} {L N : Int} (h : Boxes w gL gN gV L N) (hb : Below w.heap.size w w') : Boxes w' gL gN gV L N := ⟨h.l.ext hb, h.n.ext hb, h.v.ext hb⟩
theorem Boxes.put {w : World} {gL gN gV : Nat} {L N : Int} (h : Boxes w gL gN gV L N) (h1 : gL ≠ gN) (h2 : gL ≠ gV) (h3 : gN ≠ gV) (L' N' : Int) : Boxes ((w.setCell ⟨gL, 0, none⟩ (.int .i64 L')).setCell ⟨gN, 0, none⟩ (.int .i64 N')) gL gN gV L' N' := by
 refine ⟨?_, ?_, ?_⟩
 ·have := (h.l.set_ 0 (.int .i64 L')).far (p := ⟨gN, 0, none⟩) h1 (.int .i64 N')
  simpa using this
 ·have := (h.n.far (p := ⟨gL, 0, none⟩) h1.symm (.int .i64 L')).set_ 0 (.int .i64 N')
  simpa using this
 ·exact (h.v.far (p := ⟨gL, 0, none⟩) h2.symm _).far (p := ⟨gN, 0, none⟩) h3.symm _
theorem top_snoc (l : List Nat) (a : Nat) : Q.top (l ++ [a]) = max (Q.top l) a := by
 induction l with
 | nil => simp [Q.top]
 | cons b l ih => rw [List.cons_append, Q.top, Q.top, ih]; omega
set_option maxRecDepth 100000 in
set_option maxHeartbeats 4000000 in
theorem visit_ok (B gL gN gV : Nat) (hBL : B ≤ gL) (hBN : B ≤ gN) (h1 : gL ≠ gN) (h2 : gL ≠ gV) (h3 : gN ≠ gV) : ∀ (e : Nat) (f : Nat) (q : Q) (v : Value) (w : World) (L N : Int), e ≤ 8 → QAt f (MF B) w v q → B ≤ w.heap.size → Boxes w gL gN gV L N → 0 ≤ L → L ≤ 9 → 0 ≤ N → N + q.bulk ≤ 4611686018427387904 →
  Calls Tryz.prog 75 #[v, .int .i64 (9 - e : Int), .pointer (some ⟨gL, 0, none⟩), .pointer (some ⟨gN, 0, none⟩), .pointer (some ⟨gV, 0, none⟩)] w fun r w' => r = .returned (.tuple #[]) ∧ Below B w w' ∧ Boxes w' gL gN gV (max L (8 - e + (Q.lev (e + 1) q : Nat) : Int)) (N + ((Q.pre (e + 1) q).length : Nat)) := by
  intro e
  induction e using Nat.strongRecOn with | _ e ih => ?_
  intro f q v w L N he hq hB hx hL hL9 hN hNb
  obtain ⟨A, c, rfl, _, _, _, hv⟩ := hq
  obtain ⟨k, t, n, ps⟩ := q
  simp only [Q.kind_node, Q.text_node, Q.num_node, Q.parts_node] at hv ⊢
  have hps := hv.len_le
  unfold maxLen at hps
  have hbk := Q.bulk_eq (.node k t n ps)
  simp only [Q.text_node, Q.parts_node] at hbk
  have hb0 := (Below.refl B w).alloc hB (.cells #[.int .i64 k, .string (bs t), .int .i64 n, .slice A ps.length c] 28)
  have kb := Blk.new w 28 #[.int .i64 k, .string (bs t), .int .i64 n, .slice A ps.length c]
  have hx0 := hx.ext ((Below.refl w.heap.size w).alloc (Nat.le_refl _) (.cells #[.int .i64 k, .string (bs t), .int .i64 n, .slice A ps.length c] 28))
  obtain ⟨p0, p1, p2, p3, _⟩ := kb.four
  obtain ⟨x0, x1, _⟩ := hx0.l.one
  obtain ⟨y0, y1, _⟩ := hx0.n.one
  have hgL : gL ≠ w.heap.size := fun h => by have := hx.l.lt; omega
  have hgN : gN ≠ w.heap.size := fun h => by have := hx.n.lt; omega
  go_enter Tryz.func75, Tryz.ntmps75
  go_wp2_with fail
  go_region
  obtain ⟨W, hW⟩ : ∃ W, ((((w.alloc (.cells #[.int .i64 k, .string (bs t), .int .i64 n, .slice A ps.length c] 28)).setCell ⟨gL, 0, none⟩ (.int .i64 (max L (9 - e)))).setCell ⟨gN, 0, none⟩ (.int .i64 (N + 1))).drew) = W := ⟨_, rfl⟩
  have hbW : Below B w W := by rw [← hW]; exact ((hb0.setCell (p := ⟨gL, 0, none⟩) hBL _).setCell (p := ⟨gN, 0, none⟩) hBN _).drew
  have hxW : Boxes W gL gN gV (max L (9 - e)) (N + 1) := by rw [← hW]; have hp := hx0.put h1 h2 h3 (max L (9 - e)) (N + 1); exact ⟨hp.l, hp.n, hp.v⟩
  have p3W : W.cell? ⟨w.heap.size, 3, none⟩ = some (.slice A ps.length c) := by
   rw [← hW]
   exact (((kb.far (p := ⟨gL, 0, none⟩) hgL.symm _).far (p := ⟨gN, 0, none⟩) hgN.symm _).four).2.2.2.1
  rw [hW]
  have hB' := Nat.le_trans hB hbW.size
  clear p0 p1 p2 p3 x0 x1 y0 y1 hgL hgN kb hb0 hx0 hW hx
  have hv0 := hv
  go_wp2_with fail
  go_loopw [17] (fun i wr => ∃ m : Nat, m ≤ ps.length ∧ i = .int .i64 m ∧ Below B w wr ∧ Boxes wr gL gN gV (max L (9 - e + (Q.top ((ps.take m).map (Q.lev e)) : Nat))) (N + 1 + (((ps.take m).flatMap (Q.pre e)).length : Nat))) (fun i _ => ps.length - (intOf i).toNat)
  case atStart => exact ⟨0, Nat.zero_le _, rfl, hbW, by simpa [Q.top] using hxW⟩
  case round =>
   obtain ⟨m, hm, rfl, hb, hx⟩ := hrel
   by_cases hlt : m < ps.length
   ·have hvr := hv0.far hb
    obtain ⟨b, off, g, A2, c2, rfl, rfl, hMb, hbs, q0, q1, q2, q3, hqa⟩ := hvr.qAt hlt
    have hbm := Q.take_bulk hlt
    have hfl := Q.flat_bulk e (ps.take m)
    have htl := Q.top_lev_le e (ps.take m)
    have htk := List.take_succ_eq_append_getElem hlt
    obtain ⟨x, hxe⟩ : ∃ x, x = ps[m] := ⟨_, rfl⟩
    rw [← hxe] at q0 q1 q2 q3 hqa hbm htk
    clear hxe
    obtain ⟨z0, _, _⟩ := hx.v.one
    have Hqa := Lib.hid hqa; have Hbm := Lib.hid hbm; have Hfl := Lib.hid hfl; have Htl := Lib.hid htl; have Htk := Lib.hid htk
    clear hqa hbm hfl htl htk hvr
    have hal := (Below.refl wr.heap.size wr).alloc (Nat.le_refl _) (.cells #[.int .i64 x.kind, .string (bs x.text), .int .i64 x.num, .slice A2 x.parts.length c2] 28)
    have halB := hb.alloc (Nat.le_trans hB hb.size) (.cells #[.int .i64 x.kind, .string (bs x.text), .int .i64 x.num, .slice A2 x.parts.length c2] 28)
    by_cases h8 : 1 ≤ e
    ·have hbm := Hbm.out; have hfl := Hfl.out; have htl := Htl.out
     have hcall := ih (e - 1) (by omega) g x _ _ _ _ (by omega) (Hqa.out.far ((Below.refl B wr).alloc (Nat.le_trans hB hb.size) _)) (Nat.le_trans hB halB.size) (hx.ext hal) (by omega) (by omega) (by omega) (by omega)
     clear hbm hfl htl
     have hlv : (9 - ((e - 1 : Nat) : Int)) = 9 - (e : Int) + 1 := by omega
     have hlw : (8 - ((e - 1 : Nat) : Int)) = 9 - (e : Int) := by omega
     have he1 : e - 1 + 1 = e := by omega
     rw [hlv, hlw, he1] at hcall
     have Hc := Lib.hid hcall
     clear hcall
     go_wp2_with fail
     refine Hc.out.mono ?_
     rintro r w2 ⟨rfl, hb2, hx2⟩
     go_wp2_with fail
     go_roundw
     case rel =>
      refine ⟨m + 1, by omega, by go_num, halB.trans hb2, ?_⟩
      rw [Htk.out, List.map_append, List.flatMap_append, List.map_singleton, top_snoc, List.flatMap_cons, List.flatMap_nil, List.append_nil, List.length_append]
      have e1 : max (max L (9 - (e : Int) + (Q.top ((ps.take m).map (Q.lev e)) : Nat))) (9 - (e : Int) + (Q.lev e x : Nat)) = max L (9 - (e : Int) + (max (Q.top ((ps.take m).map (Q.lev e))) (Q.lev e x) : Nat)) := by omega
      have e2 : N + 1 + (((ps.take m).flatMap (Q.pre e)).length : Nat) + ((Q.pre e x).length : Nat) = N + 1 + ((((ps.take m).flatMap (Q.pre e)).length + (Q.pre e x).length : Nat) : Int) := by omega
      rw [e1, e2] at hx2
      exact hx2
     case measure => simp [intOf]; omega
    ·obtain rfl : e = 0 := by omega
     go_wp2_with fail
     go_roundw
     case rel =>
      refine ⟨m + 1, by omega, by go_num, halB, ?_⟩
      have h0 := Q.top_lev_le 0 (ps.take (m + 1))
      have h1 := Htl.out
      have z1 : Q.top ((ps.take (m + 1)).map (Q.lev 0)) = Q.top ((ps.take m).map (Q.lev 0)) := by omega
      have z2 : ∀ l : List Q, l.flatMap (Q.pre 0) = [] := fun l => by simp [Q.pre]
      rw [z1, z2]
      have hx9 := hx.ext hal
      rw [z2] at hx9
      exact hx9
     case measure => simp [intOf]; omega
   ·obtain rfl : m = ps.length := by omega
    rw [List.take_length] at hx
    go_wp2_with fail
    refine bodyPost_end (results_none rfl _ _ _) rfl ⟨rfl, hb, ?_⟩
    have e1 : (9 - (e : Int) + (Q.top (ps.map (Q.lev e)) : Nat)) = (8 - (e : Int) + (Q.lev (e + 1) (.node k t n ps) : Nat)) := by rw [Q.lev]; simp only [Q.parts_node]; omega
    have e2 : N + 1 + ((ps.flatMap (Q.pre e)).length : Nat) = N + ((Q.pre (e + 1) (.node k t n ps)).length : Nat) := by rw [Q.pre, List.length_cons]; simp only [Q.parts_node]; omega
    rw [e1, e2] at hx
    exact hx
set_option maxRecDepth 100000 in
set_option maxHeartbeats 4000000 in
theorem measure_ok (f : Nat) (q : Q) (v : Value) (w : World) (hq : QAt f M0 w v q) (hN : q.bulk ≤ 4611686018427387904) :
  Calls Tryz.prog 55 #[v] w fun r w' => r = .returned (.tuple #[.int .i64 (Q.lev 9 q : Nat), .int .i64 ((Q.pre 9 q).length : Nat)]) ∧ Below w.heap.size w w' := by
 have hqM := hq.toMF
 obtain ⟨A, c, rfl, _, _, _, hv⟩ := hq
 obtain ⟨k, t, n, ps⟩ := q
 simp only [Q.kind_node, Q.text_node, Q.num_node, Q.parts_node] at hv hqM ⊢
 obtain ⟨V, hV, kq, kl, kn, kv, hbV, hsV⟩ := box4 w #[.int .i64 k, .string (bs t), .int .i64 n, .slice A ps.length c] #[.int .i64 0] #[.int .i64 0] #[.func (.func 75) #[] #[.pointer (some ⟨w.heap.size + 1, 0, none⟩), .pointer (some ⟨w.heap.size + 1 + 1, 0, none⟩), .pointer (some ⟨w.heap.size + 1 + 1 + 1, 0, none⟩)]] 28 3 3 108
 have hcall := visit_ok w.heap.size _ _ _ (by omega) (by omega) (by omega) (by omega) (by omega) 8 f (.node k t n ps) _ V 0 0 (by omega) (hqM.far hbV) hbV.size ⟨kl, kn, kv⟩ (by omega) (by omega) (by omega) (by omega)
 have Hc := Lib.hid hcall; have HV := Lib.hid hV
 clear hcall hV kq kl kn kv hsV hv hqM
 go_enter Tryz.func55, Tryz.ntmps55
 go_wp2_with fail
 rw [HV.out]
 refine Hc.out.mono ?_
 rintro r w2 ⟨rfl, hb2, hx2⟩
 have hl9 := Q.lev_le 9 (.node k t n ps)
 rw [show (8 : Nat) + 1 = 9 from rfl] at hx2
 have e1 : (max (0 : Int) (8 - ((8 : Nat) : Int) + (Q.lev 9 (.node k t n ps) : Nat))) = (Q.lev 9 (.node k t n ps) : Nat) := by omega
 have e2 : ((0 : Int) + ((Q.pre 9 (.node k t n ps)).length : Nat)) = ((Q.pre 9 (.node k t n ps)).length : Nat) := by omega
 rw [e1, e2] at hx2
 obtain ⟨x0, x1, _⟩ := hx2.l.one
 obtain ⟨y0, y1, _⟩ := hx2.n.one
 have Hx2 := Lib.hid hx2
 clear e1 e2 hx2 hl9
 go_wp2_with fail
 go_region
 have hp := Hx2.out.put (by omega) (by omega) (by omega) (Q.lev 9 (.node k t n ps) : Nat) ((Q.pre 9 (.node k t n ps)).length : Nat)
 go_wp2_with fail
 have hb3 : Below w.heap.size w (((w2.setCell ⟨w.heap.size + 1, 0, none⟩ (.int .i64 (Q.lev 9 (.node k t n ps) : Nat))).setCell ⟨w.heap.size + 1 + 1, 0, none⟩ (.int .i64 ((Q.pre 9 (.node k t n ps)).length : Nat))).drew) :=
  (((hbV.trans hb2).setCell (p := ⟨w.heap.size + 1, 0, none⟩) (by show w.heap.size ≤ w.heap.size + 1; omega) _).setCell (p := ⟨w.heap.size + 1 + 1, 0, none⟩) (by show w.heap.size ≤ w.heap.size + 1 + 1; omega) _).drew
 obtain ⟨W, hW⟩ : ∃ W, (w2.setCell ⟨w.heap.size + 1, 0, none⟩ (.int .i64 (Q.lev 9 (.node k t n ps) : Nat))).setCell ⟨w.heap.size + 1 + 1, 0, none⟩ (.int .i64 ((Q.pre 9 (.node k t n ps)).length : Nat)) = W := ⟨_, rfl⟩
 rw [hW] at hp hb3 ⊢
 obtain ⟨u0, _, _⟩ := (show Blk W.drew _ _ _ from hp.l).one
 obtain ⟨u1, _, _⟩ := (show Blk W.drew _ _ _ from hp.n).one
 exact bodyPost_ret (v := .tuple #[.int .i64 (Q.lev 9 (.node k t n ps) : Nat), .int .i64 ((Q.pre 9 (.node k t n ps)).length : Nat)]) (by simp [results, Tryz.results55, go_sem, u0, u1]) rfl ⟨rfl, hb3⟩
end Go.Proofs.YtnlhocbaighedaaGreatDoor
namespace Go.Proofs.YtnlhocbaighedaaGreatDoor
open Go.RowKit
set_option linter.unusedVariables false
def shapesA : Array Value := #[.int .i64 0, .int .i64 0, .int .i64 0, .int .i64 0, .int .i64 0, .int .i64 0, .int .i64 0, .int .i64 0, .int .i64 1, .int .i64 0, .int .i64 0, .int .i64 1, .int .i64 0, .int .i64 0, .int .i64 (-1), .int .i64 0, .int .i64 0, .int .i64 2, .int .i64 2, .int .i64 60, .int .i64 0, .int .i64 2, .int .i64 60, .int .i64 0, .int .i64 1, .int .i64 1, .int .i64 0]
set_option maxRecDepth 100000 in
set_option maxHeartbeats 4000000 in
theorem shapes_ok (w : World) : Calls Tryz.prog 76 #[] w fun e w' => e = .returned (.agg shapesA) ∧ Below w.heap.size w w' := by
 obtain ⟨W, hW⟩ : ∃ W, w.alloc (.cells #[.int .i64 0, .int .i64 0, .int .i64 0, .int .i64 0, .int .i64 0, .int .i64 0, .int .i64 0, .int .i64 0, .int .i64 0, .int .i64 0, .int .i64 0, .int .i64 0, .int .i64 0, .int .i64 0, .int .i64 0, .int .i64 0, .int .i64 0, .int .i64 0, .int .i64 0, .int .i64 0, .int .i64 0, .int .i64 0, .int .i64 0, .int .i64 0, .int .i64 0, .int .i64 0, .int .i64 0] 111) = W := ⟨_, rfl⟩
 have hg : ∃ z, W.heap[w.heap.size]? = some (.cells z 111 (0, 0)) ∧ z.size = 27 := ⟨_, by rw [← hW]; exact Blk.new w _ _, rfl⟩
 obtain ⟨z, hg, hz⟩ := hg
 have hb : Below w.heap.size w W := by rw [← hW]; exact (Below.refl _ _).alloc (Nat.le_refl _) _
 have hb2 : Below w.heap.size w (W.setRow w.heap.size shapesA) := hb.trans ⟨rfl, rfl, rfl, by simp, fun k hk => setRow_other _ _ _ _ (by omega)⟩
 have hr := setRow_heap W w.heap.size z shapesA 111 (0, 0) hg
 have HW := Lib.hid hW
 clear hW hb
 go_enter Tryz.func76, Tryz.ntmps76
 go_upto_region 1 with (fail)
 rw [HW.out]
 apply wp_region_lit
 refine wpList_buildTo rfl 110 _ rfl (some 1) rfl #[.int .i64 0, .int .i64 0, .int .i64 1] (by kernel_rfl) ?_
 refine wpList_buildTo rfl 110 _ rfl (some 2) rfl #[.int .i64 0, .int .i64 0, .int .i64 1] (by kernel_rfl) ?_
 refine wpList_buildTo rfl 110 _ rfl (some 3) rfl #[.int .i64 0, .int .i64 0, .int .i64 (-1)] (by kernel_rfl) ?_
 refine wpList_buildTo rfl 110 _ rfl (some 4) rfl #[.int .i64 0, .int .i64 0, .int .i64 2] (by kernel_rfl) ?_
 refine wpList_buildTo rfl 110 _ rfl (some 5) rfl #[.int .i64 2, .int .i64 60, .int .i64 0] (by kernel_rfl) ?_
 refine wpList_buildTo rfl 110 _ rfl (some 6) rfl #[.int .i64 2, .int .i64 60, .int .i64 0] (by kernel_rfl) ?_
 refine wpList_buildTo rfl 110 _ rfl (some 7) rfl #[.int .i64 1, .int .i64 1, .int .i64 0] (by kernel_rfl) ?_
 refine wpList_buildTo rfl 111 _ rfl (some 8) rfl shapesA (by kernel_rfl) ?_
 refine wpList_store_rowTo rfl 111 _ _ rfl rfl w.heap.size shapesA (by kernel_rfl) (by kernel_rfl) 111 z hg (by kernel_rfl) (by rw [hz]; rfl) (by kernel_rfl) ?_
 apply wpList_nil
 obtain ⟨V, hV⟩ : ∃ V, W.setRow w.heap.size shapesA = V := ⟨_, rfl⟩
 rw [hV] at hb2 hr ⊢
 clear hV hg hz
 go_wp2_with fail
 exact bodyPost_ret (v := .agg shapesA) (results_cell_row Tryz.results76 _ V w.heap.size 111 shapesA (0, 0) _ (by kernel_rfl) hr Tryz.underlying111 rfl (by kernel_rfl)) rfl ⟨rfl, hb2⟩
end Go.Proofs.YtnlhocbaighedaaGreatDoor
namespace Go.Proofs.YtnlhocbaighedaaGreatDoor
namespace Sm
open Go.Lib
set_option linter.unusedVariables false
/-- rows in order, apart from each other -/
def sortedL : List (Nat × Nat) → Bool
 | [] => true
 | [x] => decide (x.1 ≤ x.2)
 | x :: y :: t => decide (x.1 ≤ x.2) && decide (x.2 < y.1) && sortedL (y :: t)
theorem sorted_head : ∀ {x : Nat × Nat} {t : List (Nat × Nat)}, sortedL (x :: t) = true → x.1 ≤ x.2 ∧ sortedL t = true ∧ ∀ y ∈ t, x.2 < y.1
 | x, [], h => ⟨by simpa [sortedL] using h, rfl, fun y hy => by cases hy⟩
 | x, z :: t, h => by
  simp only [sortedL, Bool.and_eq_true, decide_eq_true_eq] at h
  obtain ⟨⟨h1, h2⟩, h3⟩ := h
  have ih := sorted_head h3
  refine ⟨h1, h3, fun y hy => ?_⟩
  rcases List.mem_cons.1 hy with rfl | hy
  ·exact h2
  ·have := ih.2.2 y hy
   omega
theorem sorted_at : ∀ {l : List (Nat × Nat)}, sortedL l = true → ∀ (i j : Nat) (hj : j < l.length) (hij : i < j), (l[i]'(by omega)).2 < l[j].1
 | x :: t, h, 0, j + 1, hj, _ => by
  have hj2 : j < t.length := by simpa using hj
  have := (sorted_head h).2.2 t[j] (List.getElem_mem hj2)
  simpa using this
 | x :: t, h, i + 1, j + 1, hj, hij => by
  have := sorted_at (sorted_head h).2.1 i j (by simpa using hj) (by omega)
  simpa using this
theorem sorted_self : ∀ {l : List (Nat × Nat)}, sortedL l = true → ∀ (i : Nat) (hi : i < l.length), l[i].1 ≤ l[i].2
 | x :: t, h, 0, _ => (sorted_head h).1
 | x :: t, h, i + 1, hi => by
  have := sorted_self (sorted_head h).2.1 i (by simpa using hi)
  simpa using this
/-- rows of a table of ranges -/
def rowsG (T : List Rg) : List (Nat × Nat) := T.map fun x => (x.1, x.2.1)
def inG (x : Rg) (r : Nat) : Bool := Nat.ble x.1 r && Nat.ble r x.2.1
def memG (T : List Rg) (r : Nat) : Bool := T.any fun x => inG x r && x.has r
theorem getD_at (T : Array Rg) (i : Nat) (h : i < T.size) : T.getD i (0, 0, 0) = T.toList[i]'(by simpa using h) := by simp [Array.getD, h]
theorem any_slice_none {T : List Rg} {r lo hi : Nat} (h : ∀ (i : Nat) (hi' : i < T.length), lo ≤ i → i < hi → (inG T[i] r && T[i].has r) = false) : memG ((T.take hi).drop lo) r = false := by
 unfold memG
 rw [List.any_eq_false]
 intro x hx
 obtain ⟨k, hk, rfl⟩ := List.mem_iff_getElem.1 hx
 rw [List.length_drop, List.length_take] at hk
 rw [List.getElem_drop, List.getElem_take]
 rw [h (lo + k) (by omega) (by omega) (by omega)]
 simp
theorem any_slice_some {T : List Rg} {r lo hi i : Nat} (hi' : i < T.length) (h1 : lo ≤ i) (h2 : i < hi) (hs : ∀ (j : Nat) (hj : j < T.length), j ≠ i → inG T[j] r = false) (hin : inG T[i] r = true) : memG ((T.take hi).drop lo) r = T[i].has r := by
 cases hh : T[i].has r with
 | true =>
  unfold memG
  rw [List.any_eq_true]
  refine ⟨T[i], ?_, by rw [hin, hh]; rfl⟩
  refine List.mem_iff_getElem.2 ⟨i - lo, by rw [List.length_drop, List.length_take]; omega, ?_⟩
  rw [List.getElem_drop, List.getElem_take]
  congr 1
  omega
 | false =>
  apply any_slice_none
  intro j hj _ _
  by_cases e : j = i
  ·subst e; rw [hh]; simp
  ·rw [hs j hj e]; rfl
theorem rows_at {T : List Rg} {i : Nat} (h : i < T.length) : (rowsG T)[i]'(by simpa [rowsG] using h) = (T[i].1, T[i].2.1) := by simp [rowsG]
theorem only {T : List Rg} (hs : sortedL (rowsG T) = true) {r i : Nat} (hi : i < T.length) (hin : inG T[i] r = true) (j : Nat) (hj : j < T.length) (hne : j ≠ i) : inG T[j] r = false := by
 have hl : (rowsG T).length = T.length := by simp [rowsG]
 simp only [inG, Bool.and_eq_true, Nat.ble_eq] at hin
 cases hc : inG T[j] r with
 | false => rfl
 | true =>
  simp only [inG, Bool.and_eq_true, Nat.ble_eq] at hc
  exfalso
  rcases Nat.lt_or_ge j i with h | h
  ·have := sorted_at hs j i (by omega) h
   rw [rows_at hj, rows_at hi] at this
   simp only at this
   omega
  ·have := sorted_at hs i j (by omega) (by omega)
   rw [rows_at hj, rows_at hi] at this
   simp only at this
   omega
/-- the binary search finds what a look at every row finds -/
theorem bin_eq (T : Array Rg) (hs : sortedL (rowsG T.toList) = true) (r : Nat) : ∀ (f lo hi : Nat), hi ≤ T.size → hi - lo < f → binGo T r f lo hi = memG ((T.toList.take hi).drop lo) r
 | 0, lo, hi, _, h => absurd h (by omega)
 | f + 1, lo, hi, hh, h => by
  unfold binGo
  by_cases hlt : lo < hi
  ·rw [if_pos hlt]
   have hm : (lo + hi) / 2 < T.size := by omega
   have hml : (lo + hi) / 2 < T.toList.length := by simpa using hm
   have hl : (rowsG T.toList).length = T.toList.length := by simp [rowsG]
   have hself := sorted_self hs ((lo + hi) / 2) (by omega)
   rw [rows_at hml] at hself
   rw [getD_at T _ hm]
   obtain ⟨x, hx⟩ : ∃ x, T.toList[(lo + hi) / 2] = x := ⟨_, rfl⟩
   simp only [hx] at hself ⊢
   by_cases hin : x.1 ≤ r ∧ r ≤ x.2.1
   ·rw [if_pos hin]
    have hin' : inG T.toList[(lo + hi) / 2] r = true := by rw [hx]; simp [inG, hin]
    rw [any_slice_some hml (by omega) (by omega) (fun j hj hne => only hs hml hin' j hj hne) hin', hx]
   ·rw [if_neg hin]
    by_cases hr : r < x.1
    ·rw [if_pos hr, bin_eq T hs r f lo _ (by omega) (by omega)]
     have key : ∀ (i : Nat) (hi' : i < T.toList.length), (lo + hi) / 2 ≤ i → inG T.toList[i] r = false := fun i hi' hge => by
      cases hc : inG T.toList[i] r with
      | false => rfl
      | true =>
       exfalso
       simp only [inG, Bool.and_eq_true, Nat.ble_eq] at hc
       rcases Nat.lt_or_ge ((lo + hi) / 2) i with h' | h'
       ·have := sorted_at hs ((lo + hi) / 2) i (by omega) h'
        rw [rows_at hml, rows_at hi', hx] at this
        simp only at this
        omega
       ·have e : i = (lo + hi) / 2 := by omega
        subst e
        rw [hx] at hc
        omega
     have : (T.toList.take hi).drop lo = (T.toList.take ((lo + hi) / 2)).drop lo ++ (T.toList.take hi).drop ((lo + hi) / 2) := by
      conv => lhs; rw [← List.take_append_drop ((lo + hi) / 2) (T.toList.take hi)]
      rw [List.take_take, Nat.min_eq_left (by omega), List.drop_append_of_le_length (by rw [List.length_take]; omega)]
     rw [this]
     unfold memG
     rw [List.any_append]
     have hz := any_slice_none (T := T.toList) (r := r) (lo := (lo + hi) / 2) (hi := hi) (fun i hi' h1 _ => by rw [key i hi' h1]; rfl)
     unfold memG at hz
     rw [hz, Bool.or_false]
    ·rw [if_neg hr, bin_eq T hs r f _ hi (by omega) (by omega)]
     have key : ∀ (i : Nat) (hi' : i < T.toList.length), i < (lo + hi) / 2 + 1 → inG T.toList[i] r = false := fun i hi' hge => by
      cases hc : inG T.toList[i] r with
      | false => rfl
      | true =>
       exfalso
       simp only [inG, Bool.and_eq_true, Nat.ble_eq] at hc
       rcases Nat.lt_or_ge i ((lo + hi) / 2) with h' | h'
       ·have := sorted_at hs i ((lo + hi) / 2) (by omega) h'
        rw [rows_at hml, rows_at hi', hx] at this
        simp only at this
        omega
       ·have e : i = (lo + hi) / 2 := by omega
        subst e
        rw [hx] at hc
        omega
     have : (T.toList.take hi).drop lo = (T.toList.take ((lo + hi) / 2 + 1)).drop lo ++ (T.toList.take hi).drop ((lo + hi) / 2 + 1) := by
      conv => lhs; rw [← List.take_append_drop ((lo + hi) / 2 + 1) (T.toList.take hi)]
      rw [List.take_take, Nat.min_eq_left (by omega), List.drop_append_of_le_length (by rw [List.length_take]; omega)]
     rw [this]
     unfold memG
     rw [List.any_append]
     have hz := any_slice_none (T := T.toList) (r := r) (lo := lo) (hi := (lo + hi) / 2 + 1) (fun i hi' _ h2 => by rw [key i hi' h2]; rfl)
     unfold memG at hz
     rw [hz, Bool.false_or]
  ·rw [if_neg hlt, List.drop_eq_nil_of_le (by rw [List.length_take]; omega)]
   rfl
theorem lin_eq (T : Array Rg) (hs : sortedL (rowsG T.toList) = true) (r : Nat) : ∀ (f i : Nat), T.size - i < f → linGo T r f i = memG (T.toList.drop i) r
 | 0, i, h => absurd h (by omega)
 | f + 1, i, h => by
  unfold linGo
  by_cases hlt : i < T.size
  ·have hml : i < T.toList.length := by simpa using hlt
   have hl : (rowsG T.toList).length = T.toList.length := by simp [rowsG]
   rw [if_pos hlt, getD_at T _ hlt, List.drop_eq_getElem_cons hml]
   obtain ⟨x, hx⟩ : ∃ x, T.toList[i] = x := ⟨_, rfl⟩
   simp only [hx]
   have rest : ∀ z, (z < x.1 ∨ z ≤ x.2.1) → memG (T.toList.drop (i + 1)) z = false := fun z hz => by
    unfold memG
    rw [List.any_eq_false]
    intro y hy
    obtain ⟨k, hk, rfl⟩ := List.mem_iff_getElem.1 hy
    rw [List.length_drop] at hk
    rw [List.getElem_drop]
    have h1 := sorted_at hs i (i + 1 + k) (by omega) (by omega)
    rw [rows_at hml, rows_at (by omega), hx] at h1
    have h2 := sorted_self hs i (by omega)
    rw [rows_at hml, hx] at h2
    simp only at h1 h2
    have : inG T.toList[i + 1 + k] z = false := by
     cases hc : inG T.toList[i + 1 + k] z with
     | false => rfl
     | true =>
      simp only [inG, Bool.and_eq_true, Nat.ble_eq] at hc
      omega
    rw [this]
    simp
   by_cases h1 : r < x.1
   ·rw [if_pos h1]
    have := rest r (.inl h1)
    unfold memG at this ⊢
    rw [List.any_cons, this]
    have : inG x r = false := by
      rw [Bool.eq_false_iff]
      intro hc
      simp only [inG, Bool.and_eq_true, Nat.ble_eq] at hc
      omega
    rw [this]; rfl
   ·rw [if_neg h1]
    by_cases h2 : r ≤ x.2.1
    ·rw [if_pos h2]
     have := rest r (.inr h2)
     unfold memG at this ⊢
     rw [List.any_cons, this]
     have : inG x r = true := by simp only [inG, Bool.and_eq_true, Nat.ble_eq]; omega
     rw [this]; simp
    ·rw [if_neg h2, lin_eq T hs r f (i + 1) (by omega)]
     unfold memG
     rw [List.any_cons]
     have : inG x r = false := by
      rw [Bool.eq_false_iff]
      intro hc
      simp only [inG, Bool.and_eq_true, Nat.ble_eq] at hc
      omega
     rw [this]; rfl
  ·rw [if_neg hlt, List.drop_eq_nil_of_le (by simpa using Nat.le_of_not_lt hlt)]
   rfl
theorem is16_eq (T : Array Rg) (hs : sortedL (rowsG T.toList) = true) (r : Nat) : is16Go T r = memG T.toList r := by
 unfold is16Go
 split
 ·rw [lin_eq T hs r _ _ (by omega), List.drop_zero]
 ·rw [bin_eq T hs r _ _ _ (Nat.le_refl _) (by omega), List.drop_zero, List.take_of_length_le (by simp)]
theorem is32_eq (T : Array Rg) (hs : sortedL (rowsG T.toList) = true) (r : Nat) : is32Go T r = memG T.toList r := by
 unfold is32Go
 split
 ·rw [lin_eq T hs r _ _ (by omega), List.drop_zero]
 ·rw [bin_eq T hs r _ _ _ (Nat.le_refl _) (by omega), List.drop_zero, List.take_of_length_le (by simp)]
/-- a rune against a table, row by row -/
def memT (T : RTab) (z : Nat) : Bool :=
 if T.off < T.r16.size ∧ z ≤ (T.r16.getD (T.r16.size - 1) (0, 0, 0)).2.1 then memG (T.r16.toList.drop T.off) z
 else if 0 < T.r32.size ∧ (T.r32.getD 0 (0, 0, 0)).1 ≤ z then memG T.r32.toList z
 else false
theorem excl_eq (T : RTab) (h16 : sortedL (rowsG (T.r16.toList.drop T.off)) = true) (h32 : sortedL (rowsG T.r32.toList) = true) (hl : (T.r16.getD (T.r16.size - 1) (0, 0, 0)).2.1 < 65536) (z : Nat) (hz : z < 2147483648) :
  exclGo T (z : Int) = memT T z := by
 have hu : u32Of (z : Int) = z := by unfold u32Of; omega
 unfold exclGo memT
 rw [hu]
 have e : (T.r16.extract T.off T.r16.size).toList = T.r16.toList.drop T.off := by simp [List.take_of_length_le]
 have c : (((T.r32.getD 0 (0, 0, 0)).1 : Int) ≤ (z : Int)) ↔ (T.r32.getD 0 (0, 0, 0)).1 ≤ z := by omega
 split
 ·rename_i h
  rw [is16_eq _ (by rw [e]; exact h16), e, Nat.mod_eq_of_lt (by omega)]
 ·simp only [c]
  split
  ·rw [is32_eq _ h32]
  ·rfl
def inC (x : CaseRow) (r : Nat) : Bool := Nat.ble x.1 r && Nat.ble r x.2.1
theorem inC_mk {x : CaseRow} {r : Nat} (h1 : x.1 ≤ r) (h2 : r ≤ x.2.1) : inC x r = true := by simp [inC, h1, h2]
def rowsC (T : List CaseRow) : List (Nat × Nat) := T.map fun x => (x.1, x.2.1)
theorem rowsC_at {T : List CaseRow} {i : Nat} (h : i < T.length) : (rowsC T)[i]'(by simpa [rowsC] using h) = (T[i].1, T[i].2.1) := by simp [rowsC]
theorem getC_at (T : Array CaseRow) (i : Nat) (h : i < T.size) : T.getD i (0, 0, 0, 0, 0) = T.toList[i]'(by simpa using h) := by simp [Array.getD, h]
theorem onlyC {T : List CaseRow} (hs : sortedL (rowsC T) = true) {r i : Nat} (hi : i < T.length) (hin : inC T[i] r = true) (j : Nat) (hj : j < T.length) (hc : inC T[j] r = true) : j = i := by
 have hl : (rowsC T).length = T.length := by simp [rowsC]
 simp only [inC, Bool.and_eq_true, Nat.ble_eq] at hin hc
 rcases Nat.lt_or_ge j i with h | h
 ·have := sorted_at hs j i (by omega) h
  rw [rowsC_at hj, rowsC_at hi] at this
  simp only at this
  omega
 ·rcases Nat.eq_or_lt_of_le h with h' | h'
  ·exact h'.symm
  ·have := sorted_at hs i j (by omega) h'
   rw [rowsC_at hj, rowsC_at hi] at this
   simp only at this
   omega
/-- the search for a row of the case table -/
theorem look_eq (T : Array CaseRow) (hs : sortedL (rowsC T.toList) = true) (r : Nat) : ∀ (f lo hi : Nat), hi ≤ T.size → hi - lo < f →
  (∀ (i : Nat) (h : i < T.toList.length), lo ≤ i → i < hi → inC T.toList[i] r = true → lookupIdx T (r : Int) f lo hi = some i)
 | 0, lo, hi, _, h => absurd h (by omega)
 | f + 1, lo, hi, hh, h => by
  intro i hil h1 h2 hin
  unfold lookupIdx
  rw [if_pos (by omega)]
  have hm : (lo + hi) / 2 < T.size := by omega
  have hml : (lo + hi) / 2 < T.toList.length := by simpa using hm
  have hl : (rowsC T.toList).length = T.toList.length := by simp [rowsC]
  rw [getC_at T _ hm]
  by_cases hc : inC T.toList[(lo + hi) / 2] r = true
  ·have e := onlyC hs hil hin _ hml hc
   rw [if_pos (by simp only [inC, Bool.and_eq_true, Nat.ble_eq] at hc; omega), e]
  ·have hne : i ≠ (lo + hi) / 2 := fun e => hc (by subst e; exact hin)
   have hc' : ¬ ((T.toList[(lo + hi) / 2].1 ≤ r) ∧ (r ≤ T.toList[(lo + hi) / 2].2.1)) := fun hh => hc (inC_mk hh.1 hh.2)
   rw [if_neg (by omega)]
   simp only [inC, Bool.and_eq_true, Nat.ble_eq] at hin
   have hsm := sorted_self hs ((lo + hi) / 2) (by omega)
   rw [rowsC_at hml] at hsm
   simp only at hsm
   rcases Nat.lt_or_ge i ((lo + hi) / 2) with hlt | hge
   ·have := sorted_at hs i ((lo + hi) / 2) (by omega) hlt
    rw [rowsC_at hil, rowsC_at hml] at this
    simp only at this
    rw [if_pos (by omega)]
    exact look_eq T hs r f lo _ (by omega) (by omega) i hil h1 hlt (inC_mk hin.1 hin.2)
   ·have hgt : (lo + hi) / 2 < i := by omega
    have := sorted_at hs ((lo + hi) / 2) i (by omega) hgt
    rw [rowsC_at hil, rowsC_at hml] at this
    simp only at this
    rw [if_neg (by omega)]
    exact look_eq T hs r f _ hi (by omega) (by omega) i hil (by omega) h2 (inC_mk hin.1 hin.2)
def isL2 (r : Nat) : Bool := (if r ≤ 255 then isLetterL (r : Int) else memT letterT r) || (if r ≤ 255 then isDigitL (r : Int) else memT digitT r) || memT markT r
def lower2 (r : Nat) : Int := if r ≤ 127 then (if 65 ≤ r ∧ r ≤ 90 then (r : Int) + 32 else (r : Int)) else match caseT.find? (fun x => inC x r) with
 | some x => convertR 1 (r : Int) x
 | none => (r : Int)
theorem sorted_letter16 : sortedL (rowsG (letterT.r16.toList.drop letterT.off)) = true := by decide +kernel
theorem sorted_letter32 : sortedL (rowsG letterT.r32.toList) = true := by decide +kernel
theorem sorted_digit16 : sortedL (rowsG (digitT.r16.toList.drop digitT.off)) = true := by decide +kernel
theorem sorted_digit32 : sortedL (rowsG digitT.r32.toList) = true := by decide +kernel
theorem sorted_mark16 : sortedL (rowsG (markT.r16.toList.drop markT.off)) = true := by decide +kernel
theorem sorted_mark32 : sortedL (rowsG markT.r32.toList) = true := by decide +kernel
theorem sorted_case : sortedL (rowsC caseA.toList) = true := by decide +kernel
theorem isL_eq (r : Nat) (hr : r < 2147483648) : isL r = isL2 r := by
 have h1 : isLetterU (r : Int) = if r ≤ 255 then isLetterL (r : Int) else memT letterT r := by
  unfold isLetterU latin1
  by_cases h : r ≤ 255
  ·rw [if_pos h, if_pos (by simp; omega)]
  ·rw [if_neg h, if_neg (by simp; omega), excl_eq letterT sorted_letter16 sorted_letter32 (by decide +kernel) r hr]
 have h2 : isDigitU (r : Int) = if r ≤ 255 then isDigitL (r : Int) else memT digitT r := by
  unfold isDigitU
  by_cases h : r ≤ 255
  ·rw [if_pos h, if_pos (by omega)]
  ·rw [if_neg h, if_neg (by omega), excl_eq digitT sorted_digit16 sorted_digit32 (by decide +kernel) r hr]
 have h3 : isMarkU (r : Int) = memT markT r := excl_eq markT sorted_mark16 sorted_mark32 (by decide +kernel) r hr
 unfold isL isL2
 rw [h1, h2, h3]
theorem lower_eq (r : Nat) : toLowerU (r : Int) = lower2 r := by
 unfold toLowerU lower2
 by_cases h : r ≤ 127
 ·rw [if_pos h, if_pos (by omega)]
  by_cases h2 : 65 ≤ r ∧ r ≤ 90
  ·rw [if_pos h2, if_pos (by omega)]
  ·rw [if_neg h2, if_neg (by omega)]
 ·rw [if_neg h, if_neg (by omega)]
  unfold toR lookupGo
  cases hf : caseT.find? (fun x => inC x r) with
  | some x =>
   have hx := List.find?_some hf
   obtain ⟨i, hi, he⟩ := List.mem_iff_getElem.1 (List.mem_of_find?_eq_some hf)
   have hi' : i < caseA.toList.length := by simpa [caseA] using hi
   have hei : caseA.toList[i] = x := by rw [← he]; simp [caseA]
   have hl := look_eq caseA sorted_case r (caseA.size + 1) 0 caseA.size (Nat.le_refl _) (by omega) i hi' (Nat.zero_le _) (by simpa using hi') (by rw [hei]; exact hx)
   rw [hl]
   simp only [Option.map_some]
   rw [getC_at caseA i (by simpa using hi'), hei]
  | none =>
   cases hl : lookupIdx caseA (r : Int) (caseA.size + 1) 0 caseA.size with
   | none => rfl
   | some i =>
    exfalso
    obtain ⟨h1, h2, h3⟩ := lookupIdx_some caseA _ _ _ _ _ hl
    rw [getC_at caseA i h1] at h2 h3
    have hm : caseA.toList[i]'(by simpa using h1) ∈ caseT := by
     have := List.getElem_mem (l := caseA.toList) (n := i) (by simpa using h1)
     exact (show caseA.toList = caseT by simp [caseA]) ▸ this
    have := List.find?_eq_none.1 hf _ hm
    exact this (inC_mk (by omega) (by omega))
def okR (r : Nat) (z : Int) : Bool := (decide (0 ≤ z) && decide (z.toNat < 55296 ∨ (57344 ≤ z.toNat ∧ z.toNat ≤ 1114111)) && isL2 z.toNat && lower2 z.toNat == z) || !isL2 r
def okRow (x : CaseRow) : Bool := (List.range (x.2.1 + 1 - x.1)).all fun k => okR (x.1 + k) (convertR 1 ((x.1 + k : Nat) : Int) x)

end Sm
end Go.Proofs.YtnlhocbaighedaaGreatDoor
namespace Go.Proofs.YtnlhocbaighedaaGreatDoor
namespace Sm
open Go.Lib
set_option maxRecDepth 1000000
theorem ok0 : ((caseT.drop 0).take 23).all okRow = true := by decide +kernel
theorem ok1 : ((caseT.drop 23).take 107).all okRow = true := by decide +kernel
theorem ok2 : ((caseT.drop 130).take 31).all okRow = true := by decide +kernel
theorem ok3 : ((caseT.drop 161).take 10).all okRow = true := by decide +kernel
theorem ok4 : ((caseT.drop 171).take 19).all okRow = true := by decide +kernel
end Sm
end Go.Proofs.YtnlhocbaighedaaGreatDoor
namespace Go.Proofs.YtnlhocbaighedaaGreatDoor
namespace Sm
open Go.Lib
set_option maxRecDepth 1000000
theorem ok5 : ((caseT.drop 190).take 35).all okRow = true := by decide +kernel
theorem ok6 : ((caseT.drop 225).take 48).all okRow = true := by decide +kernel
theorem ok7 : ((caseT.drop 273).take 27).all okRow = true := by decide +kernel
theorem ok8 : ((caseT.drop 300).take 15).all okRow = true := by decide +kernel
theorem ok9 : ((caseT.drop 315).take 13).all okRow = true := by decide +kernel
theorem ok10 : ((caseT.drop 328).take 8).all okRow = true := by decide +kernel
end Sm
end Go.Proofs.YtnlhocbaighedaaGreatDoor
namespace Go.Proofs.YtnlhocbaighedaaGreatDoor
open Go.RowKit
set_option linter.unusedVariables false
theorem searchAt_keys {K V V' : Type} [DecidableEq K] {lt : K → K → Bool} {l : List (K × V)} {l' : List (K × V')} {x : K} {k : Nat} {hit : Bool} (h : l.map (fun p => p.1) = l'.map fun p => p.1) (hs : SearchAt lt l x k hit) : SearchAt lt l' x k hit := by
  have hl : l.length = l'.length := by have := congrArg List.length h; simpa using this
  have hk : ∀ (m : Nat) (h1 : m < l.length) (h2 : m < l'.length), l[m].1 = l'[m].1 := fun m h1 h2 => by
    have h3 : (l.map fun p => p.1)[m]'(by simpa using h1) = (l'.map fun p => p.1)[m]'(by simpa using h2) := by simp only [h]
    simpa using h3
  obtain ⟨h1, h2, h3, h4⟩ := hs
  refine ⟨by omega, fun m hm hmk => ?_, fun m hm hmk => ?_, ?_⟩
  · rw [← hk m (by omega) hm]; exact h2 m (by omega) hmk
  · rw [← hk m (by omega) hm]; exact h3 m (by omega) hmk
  · rw [h4]
    by_cases hkl : k < l.length
    · rw [List.getElem?_eq_getElem hkl, List.getElem?_eq_getElem (show k < l'.length by omega)]
      simp only [hk k hkl (by omega)]
    · rw [List.getElem?_eq_none (by omega), List.getElem?_eq_none (by omega)]
theorem upd_hit {K V : Type} [DecidableEq K] {lt : K → K → Bool} (ht : Al.Tot lt) {l : List (K × V)} (hs : Al.Sorted lt l) {x : K} {k : Nat} {hit : Bool} (h : SearchAt lt l x k hit) (f : Option V → V) :
    (hit = true ∧ ∃ hk : k < l.length, l[k].1 = x ∧ Al.upd lt f x l = l.set k (x, f (some l[k].2))) ∨ (hit = false ∧ Al.upd lt f x l = l.take k ++ (x, f none) :: l.drop k) := by
  obtain ⟨h1, h2, h3, h4⟩ := h
  have hu := Al.upd_at ht (f := f) hs k h1 (fun m hm hmk => h2 m hm hmk) (fun hk => h3 k hk (Nat.le_refl _))
  by_cases hk : k < l.length
  · rw [List.getElem?_eq_getElem hk] at hu h4
    by_cases e : l[k].1 = x
    · left
      simp only [e, if_true] at hu
      refine ⟨by rw [h4]; simpa using e, hk, e, ?_⟩
      rw [hu, List.set_eq_take_append_cons_drop, if_pos hk]
    · right
      simp only [e, if_false] at hu
      exact ⟨by rw [h4]; simpa using e, hu⟩
  · rw [List.getElem?_eq_none (by omega)] at hu h4
    right
    refine ⟨h4, ?_⟩
    have hd : l.drop k = [] := List.drop_of_length_le (by omega)
    rw [hu, hd]
/-- what a call leaves alone: all but the tree's blocks, the box and new ones -/
structure Turn (o : Nat → Owner) (bx : Nat) (w w' : World) : Prop where
  os : w'.os = w.os
  tape : w'.tape = w.tape
  output : w'.output = w.output
  size : w.heap.size ≤ w'.heap.size
  block : ∀ b, b < w.heap.size → o b = .no → b ≠ bx → w'.heap[b]? = w.heap[b]?
theorem Turn.refl (o : Nat → Owner) (bx : Nat) (w : World) : Turn o bx w w := ⟨rfl, rfl, rfl, Nat.le_refl _, fun _ _ _ _ => rfl⟩
theorem Turn.trans {o o' : Nat → Owner} {bx : Nat} {w w1 w2 : World} (h : Turn o bx w w1) (h' : Turn o' bx w1 w2) (ho : ∀ b, b < w.heap.size → o' b = o b) : Turn o bx w w2 :=
  ⟨h'.os.trans h.os, h'.tape.trans h.tape, h'.output.trans h.output, Nat.le_trans h.size h'.size, fun b hb hn hx => (h'.block b (Nat.lt_of_lt_of_le hb h.size) (by rw [ho b hb]; exact hn) hx).trans (h.block b hb hn hx)⟩
theorem Turn.of_below {o : Nat → Owner} {bx : Nat} {w w' : World} (h : Below w.heap.size w w') : Turn o bx w w' := ⟨h.os, h.tape, h.output, h.size, fun b hb _ _ => h.block b hb⟩
theorem Turn.of_grown {o : Nat → Owner} {bx : Nat} {w w' : World} {v : Value} {x : Owner} (h : w.grownBy w' v.ownBlock) (hv : ∀ b, v.ownBlock = some b → o b = x) (hx : x ≠ .no) : Turn o bx w w' :=
  ⟨h.os, h.tape, h.output, h.size, fun b hb hn _ => h.block b hb fun e => hx (by rw [← hv b e.symm]; exact hn)⟩
theorem Turn.set {o : Nat → Owner} {bx : Nat} {w w' : World} (h : Turn o bx w w') {g : Nat} (hg : g = bx ∨ o g ≠ .no ∨ w.heap.size ≤ g) (i : Nat) (u : Value) : Turn o bx w (w'.setCell ⟨g, i, none⟩ u) :=
  ⟨h.os, h.tape, h.output, by simpa using h.size, fun b hb hn hx => by
    rw [heap_set_ne _ _ _ fun e => by subst e; rcases hg with e | e | e; · exact hx e
                                      · exact e hn
                                      · omega]
    exact h.block b hb hn hx⟩
/-- bounds under which places are added -/
structure Room (ts : List Ix.Term) : Prop where
  terms : ts.length ≤ 2000000
  posts : ∀ t ∈ ts, t.2.length ≤ 1000001 ∧ ∀ p ∈ t.2, p.2.length ≤ 2000000 ∧ 1 ≤ p.1 ∧ p.1 ≤ 1000000
end Go.Proofs.YtnlhocbaighedaaGreatDoor

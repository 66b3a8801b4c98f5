/-
  Contracts and plain facts, one after another: query.measure: the levels and the nodes of a query; query.shapes, query.node: what each kind permits; the code of a node's error.
-/
import Derived.Test.YtihhgmpanfboaaaGreatDoorK5
import Derived.Test.YtihhgmpanfboaaaGreatDoorK6
import Derived.Outline
import Derived.Laws.EntriesVeiled
import Derived.Laws.Tables
import Derived.Deep.WholeRow
import Derived.Great.BuildSlice
import Derived.Deep.CutBlock
import Derived.Deep.DeepCutAuto
namespace Go.Proofs.YtihhgmpanfboaaaGreatDoor
open Go.RowKit
set_option linter.unusedVariables false
/-- what the reader may read: nothing that is made from B on -/
abbrev MF (B : Nat) : Nat → Prop := fun b => B ≤ b
theorem SlR.far {α : Type} {C : Codec α} {B : Nat} {w w' : World} {v : Value} {l : List α} (h : SlR C (MF B) w v l) (hb : Below B w w') : SlR C (MF B) w' v l :=
  h.keep (fun b _ hm => hb.block b (by omega)) hb.size
theorem QAt.far {f B : Nat} {w w' : World} {v : Value} {q : Q} (h : QAt f (MF B) w v q) (hb : Below B w w') : QAt f (MF B) w' v q := by
  obtain ⟨A, c, e, h1, h2, h3, hv⟩ := h
  exact ⟨A, c, e, h1, h2, h3, hv.far hb⟩
theorem QAt.toMF {f : Nat} {M : Nat → Prop} {w : World} {v : Value} {q : Q} (h : QAt f M w v q) : QAt f (MF w.heap.size) w v q := by
  obtain ⟨A, c, e, h1, h2, h3, hv⟩ := h
  exact ⟨A, c, e, h1, h2, h3, hv.sub fun b hb hm => by omega⟩
theorem QAt.lowMF {f B B' : Nat} {w : World} {v : Value} {q : Q} (h : QAt f (MF B) w v q) (hB : B ≤ B') : QAt f (MF B') w v q := by
  obtain ⟨A, c, e, h1, h2, h3, hv⟩ := h
  exact ⟨A, c, e, h1, h2, h3, hv.sub fun b hb hm => by omega⟩
theorem Blk.four {w : World} {g : Nat} {t : TypeId} {a b c d : Value} (h : Blk w g t #[a, b, c, d]) : w.cell? ⟨g, 0, none⟩ = some a ∧ w.cell? ⟨g, 1, none⟩ = some b ∧ w.cell? ⟨g, 2, none⟩ = some c ∧ w.cell? ⟨g, 3, none⟩ = some d ∧ g < w.heap.size :=
  ⟨h.cell 0, h.cell 1, h.cell 2, h.cell 3, h.lt⟩
theorem box4 (w : World) (c0 c1 c2 c3 : Array Value) (t0 t1 t2 t3 : TypeId) : ∃ W, ((((w.alloc (.cells c0 t0)).alloc (.cells c1 t1)).alloc (.cells c2 t2)).alloc (.cells c3 t3)) = W ∧ Blk W w.heap.size t0 c0 ∧ Blk W (w.heap.size + 1) t1 c1 ∧ Blk W (w.heap.size + 1 + 1) t2 c2 ∧ Blk W (w.heap.size + 1 + 1 + 1) t3 c3 ∧
    Below w.heap.size w W ∧ W.heap.size = w.heap.size + 1 + 1 + 1 + 1 := by
  have e1 : (w.alloc (.cells c0 t0)).heap.size = w.heap.size + 1 := World.size_alloc ..
  have e2 : ((w.alloc (.cells c0 t0)).alloc (.cells c1 t1)).heap.size = w.heap.size + 1 + 1 := by rw [World.size_alloc, e1]
  have e3 : (((w.alloc (.cells c0 t0)).alloc (.cells c1 t1)).alloc (.cells c2 t2)).heap.size = w.heap.size + 1 + 1 + 1 := by rw [World.size_alloc, e2]
  have k1 := Blk.new (w.alloc (.cells c0 t0)) t1 c1
  have k2 := Blk.new ((w.alloc (.cells c0 t0)).alloc (.cells c1 t1)) t2 c2
  have k3 := Blk.new (((w.alloc (.cells c0 t0)).alloc (.cells c1 t1)).alloc (.cells c2 t2)) t3 c3
  rw [e1] at k1
  rw [e2] at k2
  rw [e3] at k3
  exact ⟨_, rfl, (((Blk.new w t0 c0).alloc _).alloc _).alloc _, (k1.alloc _).alloc _, k2.alloc _, k3, ((((Below.refl _ w).alloc (Nat.le_refl _) _).alloc (by omega) _).alloc (by omega) _).alloc (by omega) _, by rw [World.size_alloc, e3]⟩
/-- the three boxes of measure -/
structure Boxes (w : World) (gL gN gV : Nat) (L N : Int) : Prop where
  l : Blk w gL 3 #[.int .i64 L]
  n : Blk w gN 3 #[.int .i64 N]
  v : Blk w gV 63 #[.func (.func 37) #[] #[.pointer (some ⟨gL, 0, none⟩), .pointer (some ⟨gN, 0, none⟩), .pointer (some ⟨gV, 0, none⟩)]]
theorem Boxes.ext {w w' : World} {gL gN gV : Nat} {L N : Int} (h : Boxes w gL gN gV L N) (hb : Below w.heap.size w w') : Boxes w' gL gN gV L N := ⟨h.l.ext hb, h.n.ext hb, h.v.ext hb⟩
theorem Boxes.put {w : World} {gL gN gV : Nat} {L N : Int} (h : Boxes w gL gN gV L N) (h1 : gL ≠ gN) (h2 : gL ≠ gV) (h3 : gN ≠ gV) (L' N' : Int) : Boxes ((w.setCell ⟨gL, 0, none⟩ (.int .i64 L')).setCell ⟨gN, 0, none⟩ (.int .i64 N')) gL gN gV L' N' := by
  refine ⟨?_, ?_, ?_⟩
  · have := (h.l.set_ 0 (.int .i64 L')).far (p := ⟨gN, 0, none⟩) h1 (.int .i64 N')
    simpa using this
  · have := (h.n.far (p := ⟨gL, 0, none⟩) h1.symm (.int .i64 L')).set_ 0 (.int .i64 N')
    simpa using this
  · exact (h.v.far (p := ⟨gL, 0, none⟩) h2.symm _).far (p := ⟨gN, 0, none⟩) h3.symm _
theorem top_snoc (l : List Nat) (a : Nat) : Q.top (l ++ [a]) = max (Q.top l) a := by
  induction l with
  | nil => simp [Q.top]
  | cons b l ih => rw [List.cons_append, Q.top, Q.top, ih]; omega
set_option maxRecDepth 100000 in
set_option maxHeartbeats 4000000 in
theorem visit_ok (B gL gN gV : Nat) (hBL : B ≤ gL) (hBN : B ≤ gN) (h1 : gL ≠ gN) (h2 : gL ≠ gV) (h3 : gN ≠ gV) : ∀ (e : Nat) (f : Nat) (q : Q) (v : Value) (w : World) (L N : Int), e ≤ 8 → QAt f (MF B) w v q → B ≤ w.heap.size → Boxes w gL gN gV L N → 0 ≤ L → L ≤ 9 → 0 ≤ N → N + q.bulk ≤ 4611686018427387904 →
    Calls Tryz.prog 37 #[v, .int .i64 (9 - e : Int), .pointer (some ⟨gL, 0, none⟩), .pointer (some ⟨gN, 0, none⟩), .pointer (some ⟨gV, 0, none⟩)] w fun r w' => r = .returned (.tuple #[]) ∧ Below B w w' ∧ Boxes w' gL gN gV (max L (8 - e + (Q.lev (e + 1) q : Nat) : Int)) (N + ((Q.pre (e + 1) q).length : Nat)) := by
    intro e
    induction e using Nat.strongRecOn with | _ e ih => ?_
    intro f q v w L N he hq hB hx hL hL9 hN hNb
    obtain ⟨A, c, rfl, _, _, _, hv⟩ := hq
    obtain ⟨k, t, n, ps⟩ := q
    simp only [Q.kind_node, Q.text_node, Q.num_node, Q.parts_node] at hv ⊢
    have hps := hv.len_le
    unfold maxLen at hps
    have hbk := Q.bulk_eq (.node k t n ps)
    simp only [Q.text_node, Q.parts_node] at hbk
    have hb0 := (Below.refl B w).alloc hB (.cells #[.int .i64 k, .string (bs t), .int .i64 n, .slice A ps.length c] 24)
    have kb := Blk.new w 24 #[.int .i64 k, .string (bs t), .int .i64 n, .slice A ps.length c]
    have hx0 := hx.ext ((Below.refl w.heap.size w).alloc (Nat.le_refl _) (.cells #[.int .i64 k, .string (bs t), .int .i64 n, .slice A ps.length c] 24))
    obtain ⟨p0, p1, p2, p3, _⟩ := kb.four
    obtain ⟨x0, x1, _⟩ := hx0.l.one
    obtain ⟨y0, y1, _⟩ := hx0.n.one
    have hgL : gL ≠ w.heap.size := fun h => by have := hx.l.lt; omega
    have hgN : gN ≠ w.heap.size := fun h => by have := hx.n.lt; omega
    go_enter Tryz.func37, Tryz.ntmps37
    go_wp2_with fail
    go_region
    obtain ⟨W, hW⟩ : ∃ W, ((((w.alloc (.cells #[.int .i64 k, .string (bs t), .int .i64 n, .slice A ps.length c] 24)).setCell ⟨gL, 0, none⟩ (.int .i64 (max L (9 - e)))).setCell ⟨gN, 0, none⟩ (.int .i64 (N + 1))).drew) = W := ⟨_, rfl⟩
    have hbW : Below B w W := by rw [← hW]; exact ((hb0.setCell (p := ⟨gL, 0, none⟩) hBL _).setCell (p := ⟨gN, 0, none⟩) hBN _).drew
    have hxW : Boxes W gL gN gV (max L (9 - e)) (N + 1) := by rw [← hW]; have hp := hx0.put h1 h2 h3 (max L (9 - e)) (N + 1); exact ⟨hp.l, hp.n, hp.v⟩
    have p3W : W.cell? ⟨w.heap.size, 3, none⟩ = some (.slice A ps.length c) := by
      rw [← hW]
      exact (((kb.far (p := ⟨gL, 0, none⟩) hgL.symm _).far (p := ⟨gN, 0, none⟩) hgN.symm _).four).2.2.2.1
    rw [hW]
    have hB' := Nat.le_trans hB hbW.size
    clear p0 p1 p2 p3 x0 x1 y0 y1 hgL hgN kb hb0 hx0 hW hx
    have hv0 := hv
    go_wp2_with fail
    go_loopw [17] (fun i wr => ∃ m : Nat, m ≤ ps.length ∧ i = .int .i64 m ∧ Below B w wr ∧ Boxes wr gL gN gV (max L (9 - e + (Q.top ((ps.take m).map (Q.lev e)) : Nat))) (N + 1 + (((ps.take m).flatMap (Q.pre e)).length : Nat))) (fun i _ => ps.length - (intOf i).toNat)
    case atStart => exact ⟨0, Nat.zero_le _, rfl, hbW, by simpa [Q.top] using hxW⟩
    case round =>
      obtain ⟨m, hm, rfl, hb, hx⟩ := hrel
      by_cases hlt : m < ps.length
      · have hvr := hv0.far hb
        obtain ⟨b, off, g, A2, c2, rfl, rfl, hMb, hbs, q0, q1, q2, q3, hqa⟩ := hvr.qAt hlt
        have hbm := Q.take_bulk hlt
        have hfl := Q.flat_bulk e (ps.take m)
        have htl := Q.top_lev_le e (ps.take m)
        have htk := List.take_succ_eq_append_getElem hlt
        obtain ⟨x, hxe⟩ : ∃ x, x = ps[m] := ⟨_, rfl⟩
        rw [← hxe] at q0 q1 q2 q3 hqa hbm htk
        clear hxe
        obtain ⟨z0, _, _⟩ := hx.v.one
        have Hqa := Lib.hid hqa; have Hbm := Lib.hid hbm; have Hfl := Lib.hid hfl; have Htl := Lib.hid htl; have Htk := Lib.hid htk
        clear hqa hbm hfl htl htk hvr
        have hal := (Below.refl wr.heap.size wr).alloc (Nat.le_refl _) (.cells #[.int .i64 x.kind, .string (bs x.text), .int .i64 x.num, .slice A2 x.parts.length c2] 24)
        have halB := hb.alloc (Nat.le_trans hB hb.size) (.cells #[.int .i64 x.kind, .string (bs x.text), .int .i64 x.num, .slice A2 x.parts.length c2] 24)
        by_cases h8 : 1 ≤ e
        · have hbm := Hbm.out; have hfl := Hfl.out; have htl := Htl.out
          have hcall := ih (e - 1) (by omega) g x _ _ _ _ (by omega) (Hqa.out.far ((Below.refl B wr).alloc (Nat.le_trans hB hb.size) _)) (Nat.le_trans hB halB.size) (hx.ext hal) (by omega) (by omega) (by omega) (by omega)
          clear hbm hfl htl
          have hlv : (9 - ((e - 1 : Nat) : Int)) = 9 - (e : Int) + 1 := by omega
          have hlw : (8 - ((e - 1 : Nat) : Int)) = 9 - (e : Int) := by omega
          have he1 : e - 1 + 1 = e := by omega
          rw [hlv, hlw, he1] at hcall
          have Hc := Lib.hid hcall
          clear hcall
          go_wp2_with fail
          refine Hc.out.mono ?_
          rintro r w2 ⟨rfl, hb2, hx2⟩
          go_wp2_with fail
          go_roundw
          case rel =>
            refine ⟨m + 1, by omega, by go_num, halB.trans hb2, ?_⟩
            rw [Htk.out, List.map_append, List.flatMap_append, List.map_singleton, top_snoc, List.flatMap_cons, List.flatMap_nil, List.append_nil, List.length_append]
            have e1 : max (max L (9 - (e : Int) + (Q.top ((ps.take m).map (Q.lev e)) : Nat))) (9 - (e : Int) + (Q.lev e x : Nat)) = max L (9 - (e : Int) + (max (Q.top ((ps.take m).map (Q.lev e))) (Q.lev e x) : Nat)) := by omega
            have e2 : N + 1 + (((ps.take m).flatMap (Q.pre e)).length : Nat) + ((Q.pre e x).length : Nat) = N + 1 + ((((ps.take m).flatMap (Q.pre e)).length + (Q.pre e x).length : Nat) : Int) := by omega
            rw [e1, e2] at hx2
            exact hx2
          case measure => simp [intOf]; omega
        · obtain rfl : e = 0 := by omega
          go_wp2_with fail
          go_roundw
          case rel =>
            refine ⟨m + 1, by omega, by go_num, halB, ?_⟩
            have h0 := Q.top_lev_le 0 (ps.take (m + 1))
            have h1 := Htl.out
            have z1 : Q.top ((ps.take (m + 1)).map (Q.lev 0)) = Q.top ((ps.take m).map (Q.lev 0)) := by omega
            have z2 : ∀ l : List Q, l.flatMap (Q.pre 0) = [] := fun l => by simp [Q.pre]
            rw [z1, z2]
            have hx9 := hx.ext hal
            rw [z2] at hx9
            exact hx9
          case measure => simp [intOf]; omega
      · obtain rfl : m = ps.length := by omega
        rw [List.take_length] at hx
        go_wp2_with fail
        refine bodyPost_end (results_none rfl _ _ _) rfl ⟨rfl, hb, ?_⟩
        have e1 : (9 - (e : Int) + (Q.top (ps.map (Q.lev e)) : Nat)) = (8 - (e : Int) + (Q.lev (e + 1) (.node k t n ps) : Nat)) := by rw [Q.lev]; simp only [Q.parts_node]; omega
        have e2 : N + 1 + ((ps.flatMap (Q.pre e)).length : Nat) = N + ((Q.pre (e + 1) (.node k t n ps)).length : Nat) := by rw [Q.pre, List.length_cons]; simp only [Q.parts_node]; omega
        rw [e1, e2] at hx
        exact hx
set_option maxRecDepth 100000 in
set_option maxHeartbeats 4000000 in
theorem measure_ok (f : Nat) (q : Q) (v : Value) (w : World) (hq : QAt f M0 w v q) (hN : q.bulk ≤ 4611686018427387904) :
    Calls Tryz.prog 25 #[v] w fun r w' => r = .returned (.tuple #[.int .i64 (Q.lev 9 q : Nat), .int .i64 ((Q.pre 9 q).length : Nat)]) ∧ Below w.heap.size w w' := by
  have hqM := hq.toMF
  obtain ⟨A, c, rfl, _, _, _, hv⟩ := hq
  obtain ⟨k, t, n, ps⟩ := q
  simp only [Q.kind_node, Q.text_node, Q.num_node, Q.parts_node] at hv hqM ⊢
  obtain ⟨V, hV, kq, kl, kn, kv, hbV, hsV⟩ := box4 w #[.int .i64 k, .string (bs t), .int .i64 n, .slice A ps.length c] #[.int .i64 0] #[.int .i64 0] #[.func (.func 37) #[] #[.pointer (some ⟨w.heap.size + 1, 0, none⟩), .pointer (some ⟨w.heap.size + 1 + 1, 0, none⟩), .pointer (some ⟨w.heap.size + 1 + 1 + 1, 0, none⟩)]] 24 3 3 63
  have hcall := visit_ok w.heap.size _ _ _ (by omega) (by omega) (by omega) (by omega) (by omega) 8 f (.node k t n ps) _ V 0 0 (by omega) (hqM.far hbV) hbV.size ⟨kl, kn, kv⟩ (by omega) (by omega) (by omega) (by omega)
  have Hc := Lib.hid hcall; have HV := Lib.hid hV
  clear hcall hV kq kl kn kv hsV hv hqM
  go_enter Tryz.func25, Tryz.ntmps25
  go_wp2_with fail
  rw [HV.out]
  refine Hc.out.mono ?_
  rintro r w2 ⟨rfl, hb2, hx2⟩
  have hl9 := Q.lev_le 9 (.node k t n ps)
  rw [show (8 : Nat) + 1 = 9 from rfl] at hx2
  have e1 : (max (0 : Int) (8 - ((8 : Nat) : Int) + (Q.lev 9 (.node k t n ps) : Nat))) = (Q.lev 9 (.node k t n ps) : Nat) := by omega
  have e2 : ((0 : Int) + ((Q.pre 9 (.node k t n ps)).length : Nat)) = ((Q.pre 9 (.node k t n ps)).length : Nat) := by omega
  rw [e1, e2] at hx2
  obtain ⟨x0, x1, _⟩ := hx2.l.one
  obtain ⟨y0, y1, _⟩ := hx2.n.one
  have Hx2 := Lib.hid hx2
  clear e1 e2 hx2 hl9
  go_wp2_with fail
  go_region
  have hp := Hx2.out.put (by omega) (by omega) (by omega) (Q.lev 9 (.node k t n ps) : Nat) ((Q.pre 9 (.node k t n ps)).length : Nat)
  go_wp2_with fail
  have hb3 : Below w.heap.size w (((w2.setCell ⟨w.heap.size + 1, 0, none⟩ (.int .i64 (Q.lev 9 (.node k t n ps) : Nat))).setCell ⟨w.heap.size + 1 + 1, 0, none⟩ (.int .i64 ((Q.pre 9 (.node k t n ps)).length : Nat))).drew) :=
    (((hbV.trans hb2).setCell (p := ⟨w.heap.size + 1, 0, none⟩) (by show w.heap.size ≤ w.heap.size + 1; omega) _).setCell (p := ⟨w.heap.size + 1 + 1, 0, none⟩) (by show w.heap.size ≤ w.heap.size + 1 + 1; omega) _).drew
  obtain ⟨W, hW⟩ : ∃ W, (w2.setCell ⟨w.heap.size + 1, 0, none⟩ (.int .i64 (Q.lev 9 (.node k t n ps) : Nat))).setCell ⟨w.heap.size + 1 + 1, 0, none⟩ (.int .i64 ((Q.pre 9 (.node k t n ps)).length : Nat)) = W := ⟨_, rfl⟩
  rw [hW] at hp hb3 ⊢
  obtain ⟨u0, _, _⟩ := (show Blk W.drew _ _ _ from hp.l).one
  obtain ⟨u1, _, _⟩ := (show Blk W.drew _ _ _ from hp.n).one
  exact bodyPost_ret (v := .tuple #[.int .i64 (Q.lev 9 (.node k t n ps) : Nat), .int .i64 ((Q.pre 9 (.node k t n ps)).length : Nat)]) (by simp [results, Tryz.results25, go_sem, u0, u1]) rfl ⟨rfl, hb3⟩
end Go.Proofs.YtihhgmpanfboaaaGreatDoor
namespace Go.Proofs.YtihhgmpanfboaaaGreatDoor
open Go.RowKit
set_option linter.unusedVariables false
def shapesA : Array Value := #[.int .i64 0, .int .i64 0, .int .i64 0, .int .i64 0, .int .i64 0, .int .i64 0, .int .i64 0, .int .i64 0, .int .i64 1, .int .i64 0, .int .i64 0, .int .i64 1, .int .i64 0, .int .i64 0, .int .i64 (-1), .int .i64 0, .int .i64 0, .int .i64 2, .int .i64 2, .int .i64 60, .int .i64 0, .int .i64 2, .int .i64 60, .int .i64 0, .int .i64 1, .int .i64 1, .int .i64 0]
set_option maxRecDepth 100000 in
set_option maxHeartbeats 4000000 in
theorem shapes_ok (w : World) : Calls Tryz.prog 38 #[] w fun e w' => e = .returned (.agg shapesA) ∧ Below w.heap.size w w' := by
  obtain ⟨W, hW⟩ : ∃ W, w.alloc (.cells #[.int .i64 0, .int .i64 0, .int .i64 0, .int .i64 0, .int .i64 0, .int .i64 0, .int .i64 0, .int .i64 0, .int .i64 0, .int .i64 0, .int .i64 0, .int .i64 0, .int .i64 0, .int .i64 0, .int .i64 0, .int .i64 0, .int .i64 0, .int .i64 0, .int .i64 0, .int .i64 0, .int .i64 0, .int .i64 0, .int .i64 0, .int .i64 0, .int .i64 0, .int .i64 0, .int .i64 0] 66) = W := ⟨_, rfl⟩
  have hg : ∃ z, W.heap[w.heap.size]? = some (.cells z 66 (0, 0)) ∧ z.size = 27 := ⟨_, by rw [← hW]; exact Blk.new w _ _, rfl⟩
  obtain ⟨z, hg, hz⟩ := hg
  have hb : Below w.heap.size w W := by rw [← hW]; exact (Below.refl _ _).alloc (Nat.le_refl _) _
  have hb2 : Below w.heap.size w (W.setRow w.heap.size shapesA) := hb.trans ⟨rfl, rfl, rfl, by simp, fun k hk => setRow_other _ _ _ _ (by omega)⟩
  have hr := setRow_heap W w.heap.size z shapesA 66 (0, 0) hg
  have HW := Lib.hid hW
  clear hW hb
  go_enter Tryz.func38, Tryz.ntmps38
  go_upto_region 1 with (fail)
  rw [HW.out]
  apply wp_region_lit
  refine wpList_buildTo rfl 65 _ rfl (some 1) rfl #[.int .i64 0, .int .i64 0, .int .i64 1] (by kernel_rfl) ?_
  refine wpList_buildTo rfl 65 _ rfl (some 2) rfl #[.int .i64 0, .int .i64 0, .int .i64 1] (by kernel_rfl) ?_
  refine wpList_buildTo rfl 65 _ rfl (some 3) rfl #[.int .i64 0, .int .i64 0, .int .i64 (-1)] (by kernel_rfl) ?_
  refine wpList_buildTo rfl 65 _ rfl (some 4) rfl #[.int .i64 0, .int .i64 0, .int .i64 2] (by kernel_rfl) ?_
  refine wpList_buildTo rfl 65 _ rfl (some 5) rfl #[.int .i64 2, .int .i64 60, .int .i64 0] (by kernel_rfl) ?_
  refine wpList_buildTo rfl 65 _ rfl (some 6) rfl #[.int .i64 2, .int .i64 60, .int .i64 0] (by kernel_rfl) ?_
  refine wpList_buildTo rfl 65 _ rfl (some 7) rfl #[.int .i64 1, .int .i64 1, .int .i64 0] (by kernel_rfl) ?_
  refine wpList_buildTo rfl 66 _ rfl (some 8) rfl shapesA (by kernel_rfl) ?_
  refine wpList_store_rowTo rfl 66 _ _ rfl rfl w.heap.size shapesA (by kernel_rfl) (by kernel_rfl) 66 z hg (by kernel_rfl) (by rw [hz]; rfl) (by kernel_rfl) ?_
  apply wpList_nil
  obtain ⟨V, hV⟩ : ∃ V, W.setRow w.heap.size shapesA = V := ⟨_, rfl⟩
  rw [hV] at hb2 hr ⊢
  clear hV hg hz
  go_wp2_with fail
  exact bodyPost_ret (v := .agg shapesA) (results_cell_row Tryz.results38 _ V w.heap.size 66 shapesA (0, 0) _ (by kernel_rfl) hr Tryz.underlying66 rfl (by kernel_rfl)) rfl ⟨rfl, hb2⟩
end Go.Proofs.YtihhgmpanfboaaaGreatDoor
